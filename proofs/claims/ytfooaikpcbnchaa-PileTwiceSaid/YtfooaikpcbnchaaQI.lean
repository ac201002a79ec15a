/-
  OWN WORK. Joined by merge.py: Cqe Cqf Cqg Rpl Cqh DynW Raw Cqi DynY Cqo Tue Cqp Tuf Fir Bnb Rio Bnc Bnd Pim Rpo Cqj Rim Pov Tum Tun Cql Cqn Cqq.
-/
import Derived.Test.YtfooaikpcbnchaaQH
import Derived.Laws.Cover3
import Derived.Test.YtfooaikpcbnchaaQF
import Derived.Test.YtfooaikpcbnchaaQE
/-! ## Cqe -/
namespace Go.Proofs.Ytfooaikpcbnchaa
open Go Go.RowKit Sym
set_option maxRecDepth 100000

set_option maxHeartbeats 16000000 in
theorem copy_walk (k : Int) (a b c : P2) (r : Int) (l : Ctr) (n : Nat) (add : Nat → Bool) (sub : Nat → Shp) (hs : ShB (.mk k a b c r l n add sub)) (hcn : cntS (.mk k a b c r l n add sub) ≤ 100000000) (w : World) (F : Nat → Prop) (hF : ∀ b, F b → b < w.heap.size ∧ Dyn.PlainB w b) (ol op : Option Addr) (lc pc : Nat)
    (hl : Dyn.DenC w F (cCtr l) (.slice ol l.n lc)) (hp : Dyn.DenC w F (dPt (.mk k a b c r l n add sub)) (.slice op n pc)) :
    Calls Try.prog 57 #[.agg #[.int .i64 k, .int .i64 a.x, .int .i64 a.y, .int .i64 b.x, .int .i64 b.y, .int .i64 c.x, .int .i64 c.y, .int .i64 r, .slice ol l.n lc, .slice op n pc]] w fun e w' => ∃ u, e = .returned u ∧ Dyn.DenR w' (fun b => F b ∨ (w.heap.size ≤ b ∧ b < w'.heap.size ∧ Dyn.PlainB w' b)) (.val (dvS (toSh (.mk k a b c r l n add sub)))) u ∧ Below w.heap.size w w' := by
  have HL : Hid (Dyn.DenC w F (cCtr l) (.slice ol l.n lc)) := hl
  have HP : Hid (Dyn.DenC w F (dPt (.mk k a b c r l n add sub)) (.slice op n pc)) := hp
  have HS : Hid (ShB (.mk k a b c r l n add sub)) := hs
  have HCN : Hid (cntS (.mk k a b c r l n add sub) ≤ 100000000) := hcn
  have HF : Hid (∀ b, F b → b < w.heap.size ∧ Dyn.PlainB w b) := hF
  have hc0 : (1 + (cntS (.mk k a b c r l n add sub) : Int)) ≤ 100000001 := by omega
  clear hl hp hs hcn hF
  obtain ⟨s, hse⟩ : ∃ s, s = Shp.mk k a b c r l n add sub := ⟨_, rfl⟩
  have HSE : Hid (s = Shp.mk k a b c r l n add sub) := hse
  rw [← hse] at hc0 ⊢
  clear hse
  obtain ⟨nc, hnc⟩ : ∃ nc : Nat, nc = cntS s := ⟨_, rfl⟩
  have HNC : Hid (nc = cntS s) := hnc
  rw [← hnc] at hc0
  clear hnc
  go_enter Try.func57, Try.ntmps57
  go_wp2_with (go_at_call 35; refine (copy_count HS.out HCN.out HF.out HL.out HP.out (((Below.refl _ w).alloc (Nat.le_refl _) _).alloc (by rw [World.size_alloc]; omega) _)).mono ?_; rintro e w' ⟨rfl, hb1⟩; rw [← HSE.out, ← HNC.out]; have HB1 : Hid (Below _ _ _) := hb1; clear hb1)
  go_loopg [4] (1 + nc) (fun gk v W => CqRel 118 29 F w s gk v W)
  case atStart =>
    have hs : ShB s := by rw [HSE.out]; exact HS.out
    rw [HNC.out]
    refine copy_start (cells := shC k a b c r (.slice ol l.n lc) (.slice op n pc)) 118 29 HF.out hs rfl ?_ (z := _) (by rfl) HB1.out
    rw [HSE.out]; exact shC_den HL.out HP.out
  case round =>
    clear HB1
    obtain ⟨L, g, cap, G, rfl, hstk, hI, hbel, hgr, hms, hgk, hres⟩ := hrel
    have HI : Hid (CqI F w.heap.size g wr G w.heap.size s L) := hI
    have HB : Hid (Below w.heap.size w wr) := hbel
    have HG : Hid (g ≠ w.heap.size + 1 ∧ jbM L ≤ gk ∧ gk ≤ 1 + cntS s) := ⟨hgr, hms, hgk⟩
    have HR : Hid (∃ cs, wr.heap[w.heap.size + 1]? = some (.cells cs 29 (0, 0)) ∧ cs.size = 10) := hres
    clear hI hbel hgr hms hgk hres
    cases L with
    | nil =>
      have HK : Hid (StkIs wr w.heap.size 118 1 g cap 0 []) := hstk
      clear hstk
      have hx := HI.out.box
      obtain ⟨v0, h0, q0⟩ := hx 0 (by decide)
      obtain ⟨v1, h1, q1⟩ := hx 1 (by decide)
      obtain ⟨v2, h2, q2⟩ := hx 2 (by decide)
      obtain ⟨v3, h3, q3⟩ := hx 3 (by decide)
      obtain ⟨v4, h4, q4⟩ := hx 4 (by decide)
      obtain ⟨v5, h5, q5⟩ := hx 5 (by decide)
      obtain ⟨v6, h6, q6⟩ := hx 6 (by decide)
      obtain ⟨v7, h7, q7⟩ := hx 7 (by decide)
      obtain ⟨v8, h8, q8⟩ := hx 8 (by decide)
      obtain ⟨v9, h9, q9⟩ := hx 9 (by decide)
      have o0 : v0 = .int .i64 (toSh s).k := den_p q0
      subst o0
      have o1 : v1 = .int .i64 (toSh s).a.x := den_p q1
      subst o1
      have o2 : v2 = .int .i64 (toSh s).a.y := den_p q2
      subst o2
      have o3 : v3 = .int .i64 (toSh s).b.x := den_p q3
      subst o3
      have o4 : v4 = .int .i64 (toSh s).b.y := den_p q4
      subst o4
      have o5 : v5 = .int .i64 (toSh s).c.x := den_p q5
      subst o5
      have o6 : v6 = .int .i64 (toSh s).c.y := den_p q6
      subst o6
      have o7 : v7 = .int .i64 (toSh s).r := den_p q7
      subst o7
      obtain ⟨oa8, ca8, o8⟩ := den_row (show Dyn.DenC wr G (cCtr (toSh s).l) v8 from q8)
      subst o8
      obtain ⟨oa9, ca9, o9⟩ := den_row (show Dyn.DenC wr G (.row (toSh s).n (toSh s).f) v9 from q9)
      subst o9
      clear hx q0 q1 q2 q3 q4 q5 q6 q7 q8 q9
      have HC : Hid (∀ j u, [Value.int .i64 (toSh s).k, .int .i64 (toSh s).a.x, .int .i64 (toSh s).a.y, .int .i64 (toSh s).b.x, .int .i64 (toSh s).b.y, .int .i64 (toSh s).c.x, .int .i64 (toSh s).c.y, .int .i64 (toSh s).r, .slice oa8 (toSh s).l.n ca8, .slice oa9 (toSh s).n ca9][j]? = some u → wr.cell? ⟨w.heap.size, j, none⟩ = some u) := copy_ten h0 h1 h2 h3 h4 h5 h6 h7 h8 h9
      have hr := fun i (hi : i < 10) => copy_res HR.out i hi
      have y0 := hr 0 (by decide)
      have y1 := hr 1 (by decide)
      have y2 := hr 2 (by decide)
      have y3 := hr 3 (by decide)
      have y4 := hr 4 (by decide)
      have y5 := hr 5 (by decide)
      have y6 := hr 6 (by decide)
      have y7 := hr 7 (by decide)
      have y8 := hr 8 (by decide)
      have y9 := hr 9 (by decide)
      obtain ⟨x0, y0⟩ := y0
      obtain ⟨x1, y1⟩ := y1
      obtain ⟨x2, y2⟩ := y2
      obtain ⟨x3, y3⟩ := y3
      obtain ⟨x4, y4⟩ := y4
      obtain ⟨x5, y5⟩ := y5
      obtain ⟨x6, y6⟩ := y6
      obtain ⟨x7, y7⟩ := y7
      obtain ⟨x8, y8⟩ := y8
      obtain ⟨x9, y9⟩ := y9
      have hf : ∀ o, wr.frozen? ⟨w.heap.size + 1, o, none⟩ = false := by
        obtain ⟨cs, r1, r2⟩ := HR.out
        exact fun o => plFroz ⟨_, _, r1⟩ o
      clear hr
      go_wp2
      refine bodyPost_ret (v := .agg #[.int .i64 (toSh s).k, .int .i64 (toSh s).a.x, .int .i64 (toSh s).a.y, .int .i64 (toSh s).b.x, .int .i64 (toSh s).b.y, .int .i64 (toSh s).c.x, .int .i64 (toSh s).c.y, .int .i64 (toSh s).r, .slice oa8 (toSh s).l.n ca8, .slice oa9 (toSh s).n ca9]) (results_cell_row (p := 2) (ty := 29) rfl _ _ (w.heap.size + 1) 29 _ (0, 0) _ rfl (ten_set HR.out _ _ _ _ _ _ _ _ _ _) Try.underlying29 rfl (by kernel_rfl)) rfl ?_
      refine ⟨_, rfl, copy_end HF.out HI.out (cells := [.int .i64 (toSh s).k, .int .i64 (toSh s).a.x, .int .i64 (toSh s).a.y, .int .i64 (toSh s).b.x, .int .i64 (toSh s).b.y, .int .i64 (toSh s).c.x, .int .i64 (toSh s).c.y, .int .i64 (toSh s).r, .slice oa8 (toSh s).l.n ca8, .slice oa9 (toSh s).n ca9]) rfl HC.out fun q hq => ?_, ?_⟩
      · exact ten_off hq _ _ _ _ _ _ _ _ _ _
      · exact ten_below HB.out (Nat.le_succ _) _ _ _ _ _ _ _ _ _ _
    | cons j L =>
      obtain ⟨d, hd⟩ : ∃ d, d = L.length := ⟨_, rfl⟩
      have c0 : wr.cell? ⟨g, d, none⟩ = some (.pointer (some ⟨j.b, j.off, none⟩)) := hstk.cell (by
        show (jbX L ++ [j.ptr])[d]? = _
        rw [List.getElem?_append_right (by rw [jbX_len]; omega), jbX_len, hd, Nat.sub_self]; rfl)
      have HK : Hid (StkIs wr w.heap.size 118 1 g cap (L.length + 1) (jbX (j :: L))) := hstk
      have hcap : (d : Int) < (cap : Int) := by obtain ⟨_, _, _, h, _⟩ := hstk; simp only [List.length_cons] at h; omega
      have hdb : (d : Int) ≤ 100000000 := by
        have := HG.out
        have := jb_len (j :: L)
        have := HCN.out
        have e := HSE.out
        rw [← e] at this
        simp only [List.length_cons] at *
        omega
      rw [show (j :: L).length = d + 1 by rw [hd]; rfl]
      have HD : Hid (d = L.length) := hd
      clear hd hstk
      have hj := HI.out.job j (List.mem_cons_self ..)
      obtain ⟨jb, jo, t⟩ := j
      cases t with
      | nil => exact hj.sh.elim
      | mk k' a' b' c' r' l' n' add' sub' =>
        obtain ⟨lv, c1, dl⟩ := hj.l
        obtain ⟨pv, c2, dp⟩ := hj.p
        obtain ⟨ol', lc', rfl⟩ := den_row dl
        obtain ⟨op', pc', rfl, hpv⟩ := parts_of dp
        have CT : Calls Try.prog 75 #[.slice ol' l'.n lc'] wr fun e w1 => ∃ u, e = .returned u ∧ Dyn.DenC w1 (fun b => G b ∨ (wr.heap.size ≤ b ∧ b < w1.heap.size ∧ Dyn.PlainB w1 b)) (cCtr l') u ∧ Below wr.heap.size wr w1 :=
          calls_D (us := [.slice ol' l'.n lc']) Try.func75 (by kernel_rfl) (by kernel_rfl) (pContours_ok l' hj.sh.1) wr (F := G) (fun b hb => ⟨plLt (HI.out.ok.pl b hb), HI.out.ok.pl b hb⟩) ⟨dl, trivial⟩
        have HCT := hide CT
        have HJ : Hid (JobOk w.heap.size g wr G ⟨jb, jo, .mk k' a' b' c' r' l' n' add' sub'⟩) := hj
        have HPV := hide hpv
        have HDP := hide dp
        have HC2 : Hid (wr.cell? ⟨jb, jo + 9, none⟩ = some (.slice op' n' pc')) := c2
        have HC1 : Hid (wr.cell? ⟨jb, jo + 8, none⟩ = some (.slice ol' l'.n lc')) := c1
        have c1' : wr.cell? ⟨jb, jo + 8, none⟩ = some (.slice ol' l'.n lc') := c1
        clear CT hj hpv dl dp c2 c1
        have hjl : jb < wr.heap.size := plLt HJ.out.pl
        dsimp only at c0
        by_cases hz : n' = 0
        · have HZ := hide hz
          have hzd : ((n' : Int) == 0) = true := by simp [hz]
          clear hz
          go_wp2_with (go_at_call 75; refine (HCT.out).mono ?_; rintro e w1 ⟨u, rfl, hu, hb1⟩; obtain ⟨ou, cu, rfl⟩ := den_row hu; have HU := hide hu; have HB1 := hide hb1; have d1 : w1.cell? ⟨jb, jo + 8, none⟩ = some (.slice ol' l'.n lc') := (hb1.cell (p := ⟨jb, _, none⟩) hjl).trans HC1.out; have d2 : w1.cell? ⟨jb, jo + 9, none⟩ = some (.slice op' n' pc') := (hb1.cell (p := ⟨jb, _, none⟩) hjl).trans HC2.out; have d3 : ∀ o, w1.frozen? ⟨jb, o, none⟩ = false := fun o => plFroz (HJ.out.pl.of (hb1.block _ hjl)) o; clear hu hb1)
          go_roundg (jbM L)
          case measure =>
            have := HG.out
            have e : jbM (⟨jb, jo, .mk k' a' b' c' r' l' n' add' sub'⟩ :: L) = 1 + cntS (.mk k' a' b' c' r' l' n' add' sub') + jbM L := rfl
            omega
          case rel => exact cq_zero HK.out HI.out HB.out HG.out HR.out HD.out HB1.out HU.out HZ.out
        · have HZ := hide hz
          have hzd : ((n' : Int) == 0) = false := by simp; omega
          obtain ⟨pb, po, gv, rfl, hnc, hGb, hcl⟩ := HPV.out (by omega)
          have hn0 : (0 : Int) < (n' : Int) := by omega
          have hnp : (n' : Int) ≤ (pc' : Int) := by omega
          have HGB := hide hGb
          have HCL := hide hcl
          have HNP := hide hnc
          clear hz hGb hcl hnc
          go_wp2_with (go_at_call 75; refine (HCT.out).mono ?_; rintro e w1 ⟨u, rfl, hu, hb1⟩; obtain ⟨ou, cu, rfl⟩ := den_row hu; have HU := hide hu; have HB1 := hide hb1; have d1 : w1.cell? ⟨jb, jo + 8, none⟩ = some (.slice ol' l'.n lc') := (hb1.cell (p := ⟨jb, _, none⟩) hjl).trans HC1.out; have d2 : w1.cell? ⟨jb, jo + 9, none⟩ = some (.slice (some ⟨pb, po, none⟩) n' pc') := (hb1.cell (p := ⟨jb, _, none⟩) hjl).trans HC2.out; have d3 : ∀ o, w1.frozen? ⟨jb, o, none⟩ = false := fun o => plFroz (HJ.out.pl.of (hb1.block _ hjl)) o; clear hu hb1)
          have HW2 : Hid (∀ q, q ≠ jb → (w1.setCell ⟨jb, jo + 8, none⟩ (.slice ou l'.n cu)).heap[q]? = w1.heap[q]?) := fun q hq => setCell_off hq
          have e2 : (w1.setCell ⟨jb, jo + 8, none⟩ (.slice ou l'.n cu)).cell? ⟨jb, jo + 9, none⟩ = some (.slice (some ⟨pb, po, none⟩) n' pc') := (cell_set_other (by omega)).trans d2
          generalize hw2 : w1.setCell ⟨jb, jo + 8, none⟩ (.slice ou l'.n cu) = w2 at HW2 e2 ⊢
          have HW2e := hide hw2
          have hj2 : jb < w2.heap.size := by rw [← HW2e.out, setCell_size]; have := HB1.out.size; omega
          have hn1 : 0 < n' := by omega
          clear hw2 d1 d2 d3
          have I2 : CqI F w.heap.size g w2 (fun b => G b ∨ (wr.heap.size ≤ b ∧ b < w1.heap.size ∧ Dyn.PlainB w1 b)) w.heap.size s (⟨jb, jo, .mk k' a' b' c' r' l' n' add' sub'⟩ :: L) := by
            rw [← HW2e.out]
            obtain ⟨cs, hr1, _⟩ := HR.out
            exact CqI.ctr HI.out (Array.getElem?_eq_some_iff.1 hr1).1 HK.out.lt HB1.out HU.out
          have HI2 := hide I2
          clear I2
          obtain ⟨gv, CS, s1, s2, s3, s4, s5, s6⟩ := cq_row HI2.out e2 hn1
          have HS2 := hide s2
          have HS5 := hide s5
          have HS1 := hide s1
          have HS3 := hide s3
          have HS4 := hide s4
          clear s1 s2 s3 s4 s5
          go_region
          have e3 : ((w2.alloc (.cells #[.pointer (some ⟨pb, po, none⟩), .int .i64 (n' : Int)] 122)).drew).cell? ⟨jb, jo + 9, none⟩ = some (.slice (some ⟨pb, po, none⟩) n' pc') := (World.cell?_of_block (Below.heap_alloc w2 _ _ hj2)).trans e2
          have k0 : ((w2.alloc (.cells #[.pointer (some ⟨pb, po, none⟩), .int .i64 (n' : Int)] 122)).drew).cell? ⟨w2.heap.size, 0, none⟩ = some (.pointer (some ⟨pb, po, none⟩)) := new_cell w2 _ _ 0
          have k1 : ((w2.alloc (.cells #[.pointer (some ⟨pb, po, none⟩), .int .i64 (n' : Int)] 122)).drew).cell? ⟨w2.heap.size, 1, none⟩ = some (.int .i64 (n' : Int)) := new_cell w2 _ _ 1
          have hj3 : jb < ((w2.alloc (.cells #[.pointer (some ⟨pb, po, none⟩), .int .i64 (n' : Int)] 122)).drew).heap.size := by show jb < (w2.alloc _).heap.size; rw [World.size_alloc]; omega
          have HA3 : Hid (∀ q, q < w2.heap.size → ((w2.alloc (.cells #[.pointer (some ⟨pb, po, none⟩), .int .i64 (n' : Int)] 122)).drew).heap[q]? = w2.heap[q]?) := fun q hq => Below.heap_alloc w2 _ q hq
          have HB3 : Hid (((w2.alloc (.cells #[.pointer (some ⟨pb, po, none⟩), .int .i64 (n' : Int)] 122)).drew).heap.size = w2.heap.size + 1 ∧ Below w.heap.size w ((w2.alloc (.cells #[.pointer (some ⟨pb, po, none⟩), .int .i64 (n' : Int)] 122)).drew)) := ⟨World.size_alloc _ _, by
            have b2 : Below w.heap.size w w2 := by rw [← HW2e.out]; exact (HB.out.trans (HB1.out.mono HB.out.size)).setCell (p := ⟨jb, _, none⟩) HJ.out.lo.1 _
            exact (b2.alloc b2.size _).drew⟩
          have kz : w2.heap.size < ((w2.alloc (.cells #[.pointer (some ⟨pb, po, none⟩), .int .i64 (n' : Int)] 122)).drew).heap.size := by show _ < (w2.alloc _).heap.size; rw [World.size_alloc]; omega
          generalize (w2.alloc (.cells #[.pointer (some ⟨pb, po, none⟩), .int .i64 (n' : Int)] 122)).drew = w3 at e3 k0 k1 hj3 HA3 HB3 kz ⊢
          have hlk := copy_look pb po n'
          have hne := fun W => run_neq_map_nil (P := Try.prog) W 117 122 27 none Try.underlying117
          have hmk := copy_make n' (by have := HJ.out.sh.2.1; omega)
          clear e2 hj2
          go_wp2_with (refine wpList_copyK (o := ⟨some 76, _, _, _, _, _⟩) rfl (.tmp 71) (.tmp 75) _ _ rfl 45 Try.underlying27 11 infoPart1 w3.heap.size n' n' ⟨pb, po, none⟩ pc' rfl rfl (madeCells zPart (n' * 11)) 45 (heap_newC w3 _) (size_madeCells _ _) CS HS1.out ?k4 HS3.out ?_)
          case k4 =>
            intro j v hj
            have q := HS4.out j v hj
            have pz : pb < w3.heap.size := by have := HB3.out.1; omega
            rw [add_off]
            exact (World.cell?_of_block (Below.heap_alloc w3 _ _ pz)).trans ((World.cell?_of_block (HA3.out _ s6)).trans q)
          have R4 := row4 (z := madeCells zPart (n' * 11)) (pt := 45) CS HB3.out.2 (by have := HB3.out.2.size; omega)
          generalize (w3.alloc (.cells (madeCells zPart (n' * 11)) 45)).setRow w3.heap.size CS.toArray = w4 at R4 ⊢
          have HR4 := hide R4
          clear R4 e3 k0 k1 hlk hmk
          have hg4 : w4.heap[g]? = wr.heap[g]? := by
            have h1 := HK.out.lt
            have h2 := HJ.out.g
            have h3 : g < w1.heap.size := by have := HB1.out.size; omega
            have h4 : w2.heap.size = w1.heap.size := by rw [← HW2e.out, setCell_size]
            rw [HR4.out.old g (by have := HB3.out.1; omega), HA3.out g (by omega), HW2.out g (fun e => h2 e.symm), HB1.out.block g h1]
          have HR2 : Hid (∃ cs, w2.heap[w.heap.size + 1]? = some (.cells cs 29 (0, 0)) ∧ cs.size = 10) := by
            obtain ⟨cs, hr1, hr2⟩ := HR.out
            refine ⟨cs, ?_, hr2⟩
            rw [HW2.out _ (fun e => HJ.out.lo.2 e.symm), HB1.out.block _ (Array.getElem?_eq_some_iff.1 hr1).1]
            exact hr1
          have HGL : Hid (g < w2.heap.size ∧ jb < w2.heap.size) := by
            have h1 := HK.out.lt
            have h2 := plLt HJ.out.pl
            have h3 := HB1.out.size
            have h4 : w2.heap.size = w1.heap.size := by rw [← HW2e.out, setCell_size]
            exact ⟨by omega, by omega⟩
          have HM : Hid (jbM (kids w3.heap.size sub' n' ++ L) < gk) := by
            have h1 := kids_m w3.heap.size sub' L n'
            have h2 : jbM (⟨jb, jo, .mk k' a' b' c' r' l' n' add' sub'⟩ :: L) = 1 + sumC (fun i => 1 + cntS (sub' i)) n' + jbM L := rfl
            have h3 := HG.out
            show _ < gk
            omega
          have hLb : L.length ≤ 100000000 := by have := HD.out; omega
          have hnb : n' ≤ 1000000000 := HJ.out.sh.2.1
          go_loopg [4, 84] n' (fun gq v iv W => CqIn 118 w.heap.size g w w4 w3.heap.size n' sub' L gq v iv W)
          case atStart => exact cq_in0 HK.out HD.out HR4.out hg4
          case round =>
            clear hg4
            obtain ⟨i, g', cap', rfl, hik, rfl, hst, hke, hgg, hsz, hbe⟩ := hrel
            have H1 := hide hst
            have H2 := hide hke
            have H3 := hide hgg
            have H4 := hide hsz
            have H5 := hide hbe
            have H6 := hide hik
            clear hst hke hgg hsz hbe hik
            by_cases hin : i < n'
            · have hin2 : (i : Int) < (n' : Int) := by omega
              have HN := hide hin
              have HO : Hid (wr.ownsRow w.heap.size 118 1 (.slice (some ⟨g', 0, none⟩) (L.length + i) cap') (L.length + i) (jbX (kids w3.heap.size sub' i ++ L))) := H1.out.owns
              have HBs : Hid (w.heap.size ≤ wr.heap.size) := H5.out.size
              obtain ⟨i0, hi, hz0, hz1, hz2⟩ := info_parts infoPtr
              go_wp2_with (at_builtin; refine wpList_append_own_at _ rfl _ _ 119 rfl w.heap.size 118 i0 (.pointer none) 1 8 Try.underlying119 hi hz0 hz1 hz2 rfl (by decide) _ _ _ rfl (HO.out.alloc _) ⟨_, 0, none⟩ 1 1 [.pointer (some ⟨w3.heap.size, i * 11 + 1, none⟩)] rfl rfl ?c1 ?c2 ?c3 ?c4 ?c5 ?_)
              case c1 =>
                intro j u hj
                rw [add_off, Nat.zero_add, new_cell]
                simpa using hj
              case c2 =>
                intro u hu
                simp at hu
                rcases hu with rfl; rfl
              case c3 => unfold maxLen; omega
              case c4 => omega
              case c5 => rw [World.size_alloc]; have := HBs.out; omega
              · intro v' w5 hown' hgrow _ hat
                obtain ⟨q, hq1, hq2⟩ := cq_in1 HBs.out HN.out H6.out H1.out H2.out H3.out H4.out H5.out hown' hgrow (by rw [World.size_alloc]; exact hat)
                have HQ1 := hide hq1
                have HQ2 := hide hq2
                clear hq1 hq2 hown' hgrow hat
                go_wp2
                go_roundg q
                case measure => exact HQ1.out
                case rel => exact HQ2.out
            · have hieq : i = n' := by have := H6.out; omega
              have HE := hide hieq
              have hin2 : ¬ (i : Int) < (n' : Int) := by omega
              have hcell : ∃ pv, wr.cell? ⟨jb, jo + 9, none⟩ = some pv := by
                obtain ⟨pv, p1, _⟩ := (HI2.out.job _ (List.mem_cons_self ..)).p
                have h1 := HGL.out
                have h2 := HR4.out.size
                have h3 := HB3.out.1
                refine ⟨pv, (World.cell?_of_block ?_).trans p1⟩
                show wr.heap[jb]? = w2.heap[jb]?
                rw [H2.out jb (by omega) HJ.out.g, HR4.out.old jb (by omega), HA3.out jb h1.2]
              have hfroz : wr.frozen? ⟨jb, jo + 9, none⟩ = false := by
                have h1 := HGL.out
                have h2 := HR4.out.size
                have h3 := HB3.out.1
                refine plFroz ((HI2.out.job _ (List.mem_cons_self ..)).pl.of ?_) _
                show wr.heap[jb]? = w2.heap[jb]?
                rw [H2.out jb (by omega) HJ.out.g, HR4.out.old jb (by omega), HA3.out jb h1.2]
              obtain ⟨pv, hcell⟩ := hcell
              clear hin hieq
              go_wp2
              go_roundg (jbM (kids w3.heap.size sub' n' ++ L))
              case measure => exact HM.out
              case rel => exact cq_fin HI2.out HG.out HGL.out.1 HR2.out HA3.out HB3.out.1 HR4.out HS2.out HS5.out HE.out rfl H1.out H2.out H3.out H5.out
end Go.Proofs.Ytfooaikpcbnchaa

/-! ## Cqf -/
namespace Go.Proofs.Ytfooaikpcbnchaa
open Go Go.RowKit Sym
set_option maxRecDepth 100000

theorem copy_ok (s : Shp) (hs : ShB s) (hc : cntS s ≤ 100000000) : Dyn.CallD Try.prog 57 [dvS (toSh s)] (.val (dvS (toSh s))) := fun w F us hF hd => by
  have hr : (callFunc 57 us.toArray).run Try.prog w = .ok (.enter 57 us.toArray) w := by
    unfold callFunc
    simp only [Sem.run_bind, run_program, Result.andThen_ok, Try.func57]
    simp [show (Try.prog.funcs[57]?) = some Try.f57 from Try.func57, show Try.f57.body.isNone = false by kernel_rfl, show (Try.f57.name == "runtime.NumGoroutine") = false by kernel_rfl]
  rw [hr]
  refine ⟨rfl, ?_⟩
  cases s with
  | nil => exact hs.elim
  | mk k a b c r l n add sub =>
    match us, hd with
    | [u], hd =>
      obtain ⟨cells, rfl, hl⟩ := hd.1
      obtain ⟨cl⟩ := cells
      match cl, hl with
      | [v0, v1, v2, v3, v4, v5, v6, v7, v8, v9], hl =>
        obtain ⟨q0, q1, q2, q3, q4, q5, q6, q7, q8, q9, _⟩ := hl
        have o0 : v0 = .int .i64 k := den_p q0
        have o1 : v1 = .int .i64 a.x := den_p q1
        have o2 : v2 = .int .i64 a.y := den_p q2
        have o3 : v3 = .int .i64 b.x := den_p q3
        have o4 : v4 = .int .i64 b.y := den_p q4
        have o5 : v5 = .int .i64 c.x := den_p q5
        have o6 : v6 = .int .i64 c.y := den_p q6
        have o7 : v7 = .int .i64 r := den_p q7
        subst o0 o1 o2 o3 o4 o5 o6 o7
        have q8' : Dyn.DenC w F (cCtr l) v8 := q8
        have q9' : Dyn.DenC w F (dPt (.mk k a b c r l n add sub)) v9 := q9
        obtain ⟨ol, lc, rfl⟩ := den_row q8'
        obtain ⟨op, pc, rfl⟩ := den_row q9'
        exact copy_walk k a b c r l n add sub hs hc w F hF ol op lc pc q8' q9'
    | [], hd => exact hd.elim
    | _ :: _ :: _, hd => exact hd.2.elim
theorem copy_all (x : Sh) (h : PdS x) (hc : PdC x) : Dyn.CallD Try.prog 57 [dvS x] (.val (dvS (toSh (ofSh x)))) := CallD_le (args := [dvS (toSh (ofSh x))]) ⟨SLe.dv h.2, trivial⟩ (copy_ok _ h.1 hc)
end Go.Proofs.Ytfooaikpcbnchaa

/-! ## Cqg -/
namespace Go.Proofs.Ytfooaikpcbnchaa
open Go Go.RowKit Sym
set_option maxRecDepth 100000

noncomputable def tdLe : List Dyn.EntryD := [(57, en1D (qAnd (qAnd qS PdS) PdC) fun x => .val (dvS (toSh (ofSh x))))]
noncomputable def tabLe : Dyn.Tabs := Dyn.tabs tbF tdLe drCy dtyQ
theorem tabLe_ok : Dyn.TabsOk Try.prog tabLe := Dyn.tabs_ok tbF_ok (List.forall_mem_cons.2 ⟨en1D_ok (qAnd_ok (qAnd_ok qS_ok)) fun x h => copy_all x h.2.1 h.1, fun _ h => by cases h⟩)
noncomputable def cpE (x : Sh) : Sh := toSh (ofSh x)
def leZ : Nat → List Dyn.DC := fun _ => [.p (.bool false), .p (.int .i64 0), .p (.int .i64 0), .p (.int .i64 0), .p (.int .i64 0), .p (.int .i64 0), .p (.int .i64 0), .p (.int .i64 0), .p (.int .i64 0), .row 0 fun _ => [], .row 0 fun _ => []]
noncomputable def leF (add : Nat → Bool) (sh : Nat → Sh) (i : Nat) : List Dyn.DC := partC (add i) (cpE (sh i))
noncomputable def leG (n : Nat) (add : Nat → Bool) (sh hs : Nat → Sh) (i : Nat) : List Dyn.DC := bif Nat.blt i n then leF add sh i else partC false (cpE (hs (i - n)))
def leH (hs : Nat → Sh) (i : Nat) : List Dyn.DC := cS (hs i)
def leS (n : Nat) (f : Nat → List Dyn.DC) (m : Nat) (h : Nat → List Dyn.DC) (t : Int) (i : Nat) (F : Nat → List Dyn.DC) : Dyn.St := mkS 46 [(1, sH 1 0 m), (5, sH 2 0 i), (16, sH 0 0 n), (17, sI n), (18, sI t)] [some (.deep [.row n f]), some (.deep [.row m h]), some (.own 67 i F)]
def leT (m : Nat) (h : Nat → List Dyn.DC) (t : Int) (i : Nat) (F : Nat → List Dyn.DC) : Dyn.St := mkS 46 [(5, sH 1 0 i), (32, sH 0 0 m), (33, sI m), (34, sI t)] [some (.deep [.row m h]), some (.own 67 i F)]
def leK1 : List Nat := [1, 5, 16, 17, 18]
def leK2 : List Nat := [5, 32, 33, 34]
noncomputable def leLp (n : Nat) (add : Nat → Bool) (sh : Nat → Sh) (m : Nat) (hs : Nat → Sh) : Dyn.Lp := fun id st => match id with
  | 0 => some (.side [keepA 46 [0, 1] [5] leK1 (2 ^ 18) st = leS n (mkL n add sh).f m (leH hs) 0 0 leZ] (.leaf .normal (leS n (mkL n add sh).f m (leH hs) (n : Nat) n (leF add sh))))
  | 2 => some (.side [keepA 46 [1] [5] leK2 (2 ^ 34) st = leT m (leH hs) 0 n (leF add sh)] (.leaf .normal (leT m (leH hs) (m : Nat) (n + m) (leG n add sh hs))))
  | _ => none
theorem le_blocks : blocksL (bodyD Try.f39.body) = [(0, .loop (unloopD (blkD Try.f39.body 0))), (1, blkD Try.f39.body 1), (2, .loop (unloopD (blkD Try.f39.body 2))), (3, blkD Try.f39.body 3)] := by kernel_rfl
theorem le_b0 : blocksL (unloopD (blkD Try.f39.body 0)) = [(1, blkD Try.f39.body 1)] := by kernel_rfl
theorem le_b2 : blocksL (unloopD (blkD Try.f39.body 2)) = [(3, blkD Try.f39.body 3)] := by kernel_rfl
noncomputable def leB0 (n : Nat) (add : Nat → Bool) (sh : Nat → Sh) (m : Nat) (hs : Nat → Sh) (i : Nat) (F : Nat → List Dyn.DC) : Dyn.Out :=
  .ite (decide ((i : Int) < n)) (.side [0 ≤ (i : Int) ∧ (i : Int) < n] (.side [PdC (sh i), PdS (sh i), ctrSelf (sh i).l, szP 120 i] (.leaf .normal (leS n (mkL n add sh).f m (leH hs) (W (i + 1)) (i + 1) (Dyn.appF i F (fun _ => leF add sh i)))))) (.leaf (.exit 0) (leS n (mkL n add sh).f m (leH hs) i i F))
noncomputable def leB2 (n m : Nat) (hs : Nat → Sh) (i : Nat) (F : Nat → List Dyn.DC) : Dyn.Out :=
  .ite (decide ((i : Int) < m)) (.side [0 ≤ (i : Int) ∧ (i : Int) < m] (.side [PdC (hs i), PdS (hs i), ctrSelf (hs i).l, szP 120 (n + i)] (.leaf .normal (leT m (leH hs) (W (i + 1)) (n + i + 1) (Dyn.appF (n + i) F (fun _ => partC false (cpE (hs i)))))))) (.leaf (.exit 2) (leT m (leH hs) i (n + i) F))
theorem le_B0 (n : Nat) (add : Nat → Bool) (sh : Nat → Sh) (m : Nat) (hs : Nat → Sh) (i : Nat) (F : Nat → List Dyn.DC) : (Dyn.lexec Try.prog tabLe (leLp n add sh m hs) 3 (unloopD (blkD Try.f39.body 0)) .leaf (leS n (mkL n add sh).f m (leH hs) i i F)).rl (fun _ s => keepA 46 [0, 1] [5] leK1 0 s) = leB0 n add sh m hs i F := by kernel_rfl
theorem le_B2 (n : Nat) (add : Nat → Bool) (sh : Nat → Sh) (m : Nat) (hs : Nat → Sh) (i : Nat) (F : Nat → List Dyn.DC) : (Dyn.lexec Try.prog tabLe (leLp n add sh m hs) 3 (unloopD (blkD Try.f39.body 2)) .leaf (leT m (leH hs) i (n + i) F)).rl (fun _ s => keepA 46 [0] [5] leK2 0 s) = leB2 n m hs i F := by kernel_rfl
theorem le_loop0 (n : Nat) (add : Nat → Bool) (sh : Nat → Sh) (m : Nat) (hs : Nat → Sh) (hn : n ≤ 1000000000) (hP : ∀ i, i < n → PdS (sh i) ∧ PdC (sh i)) (w0 : Dyn.Base Try.prog) (st : Dyn.St) (o : Dyn.Out) (h : leLp n add sh m hs 0 st = some o) : Dyn.BlockSound Try.prog w0 0 (.loop (unloopD (blkD Try.f39.body 0))) st o := by
  simp only [leLp, Option.some.injEq] at h
  subst h
  refine side_one fun hS => ?_
  refine fold_block (fuel := 3) tabLe_ok mo (lp := leLp n add sh m hs) (by rw [le_b0]; exact lpOk_cons (fun s o h => by cases h) lpOk_nil) (fun i (_ : Unit) => leS n (mkL n add sh).f m (leH hs) i i (leF add sh)) n (fun _ _ => ()) () (fun _ s => keepA 46 [0, 1] [5] leK1 0 s) (fun _ s => keepA_ent 46 _ _ _ 0 s) (fun i _ => leB0 n add sh m hs i (leF add sh)) (fun i _ => le_B0 n add sh m hs i _) (fun i hi => ?_) ?_
    (Dyn.Ent.trans (s2 := leS n (mkL n add sh).f m (leH hs) 0 0 leZ) (hS ▸ keepA_ent 46 _ _ _ _ st) (Dyn.Ent.fits ⟨rfl, Dyn.HeLe.refl _, Dyn.HeLe.refl _, ⟨rfl, rfl, fun j hj => absurd hj (Nat.not_lt_zero j)⟩, trivial⟩))
  · refine ⟨fun _ => ⟨⟨⟨by omega, by show (i : Int) < (n : Int); omega⟩, trivial⟩, ⟨(hP i hi).2, (hP i hi).1, ctrSelf_ok _, szP_ok (by decide) (by omega), trivial⟩, rfl, ?_⟩, fun hf => ?_⟩
    · rw [Wn1 hi hn]
      exact ⟨rfl, Dyn.HeLe.refl _, Dyn.HeLe.refl _, le_app rfl, trivial⟩
    · rw [decide_eq_false_iff_not] at hf
      exact absurd (show (i : Int) < (n : Int) by omega) hf
  · refine ⟨fun ht => ?_, fun _ => ⟨rfl, Dyn.Fits.refl _⟩⟩
    rw [decide_eq_true_eq] at ht
    exact absurd (show (n : Int) < (n : Int) from ht) (by omega)
theorem leG_lt {n : Nat} {add : Nat → Bool} {sh hs : Nat → Sh} {i : Nat} (h : i < n) : leG n add sh hs i = leF add sh i := by
  unfold leG; rw [show Nat.blt i n = true from Nat.ble_eq_true_of_le h]; rfl
theorem leG_ge {n : Nat} {add : Nat → Bool} {sh hs : Nat → Sh} {i : Nat} : leG n add sh hs (n + i) = partC false (cpE (hs i)) := by
  unfold leG
  rw [show Nat.blt (n + i) n = false by rw [Bool.eq_false_iff]; exact fun e => absurd (Nat.le_of_ble_eq_true e) (by omega), show n + i - n = i by omega]; rfl
theorem le_loop2 (n : Nat) (add : Nat → Bool) (sh : Nat → Sh) (m : Nat) (hs : Nat → Sh) (hn : n + m ≤ 1000000000) (hP : ∀ i, i < m → PdS (hs i) ∧ PdC (hs i)) (w0 : Dyn.Base Try.prog) (st : Dyn.St) (o : Dyn.Out) (h : leLp n add sh m hs 2 st = some o) : Dyn.BlockSound Try.prog w0 2 (.loop (unloopD (blkD Try.f39.body 2))) st o := by
  simp only [leLp, Option.some.injEq] at h
  subst h
  refine side_one fun hS => ?_
  refine fold_block (fuel := 3) tabLe_ok mo (lp := leLp n add sh m hs) (by rw [le_b2]; exact lpOk_cons (fun s o h => by cases h) lpOk_nil) (fun i (_ : Unit) => leT m (leH hs) i (n + i) (leG n add sh hs)) m (fun _ _ => ()) () (fun _ s => keepA 46 [0] [5] leK2 0 s) (fun _ s => keepA_ent 46 _ _ _ 0 s) (fun i _ => leB2 n m hs i (leG n add sh hs)) (fun i _ => le_B2 n add sh m hs i _) (fun i hi => ?_) ?_
    (Dyn.Ent.trans (s2 := leT m (leH hs) 0 n (leF add sh)) (hS ▸ keepA_ent 46 _ _ _ _ st) (Dyn.Ent.fits ⟨rfl, Dyn.HeLe.refl _, ⟨rfl, rfl, fun j hj => (leG_lt (add := add) (sh := sh) (hs := hs) (show j < n from hj)).symm⟩, trivial⟩))
  · refine ⟨fun _ => ⟨⟨⟨by omega, by show (i : Int) < (m : Int); omega⟩, trivial⟩, ⟨(hP i hi).2, (hP i hi).1, ctrSelf_ok _, szP_ok (by decide) (by omega), trivial⟩, rfl, ?_⟩, fun hf => ?_⟩
    · rw [Wn1 hi (by omega)]
      exact ⟨rfl, Dyn.HeLe.refl _, le_app leG_ge.symm, trivial⟩
    · rw [decide_eq_false_iff_not] at hf
      exact absurd (show (i : Int) < (m : Int) by omega) hf
  · refine ⟨fun ht => ?_, fun _ => ⟨rfl, Dyn.Fits.refl _⟩⟩
    rw [decide_eq_true_eq] at ht
    exact absurd (show (m : Int) < (m : Int) from ht) (by omega)
noncomputable def leO (n : Nat) (add : Nat → Bool) (sh : Nat → Sh) (m : Nat) (hs : Nat → Sh) : Dyn.RO :=
  .side [0 ≤ (0 : Int) ∧ 0 ≤ W ((n : Int) + m) ∧ W ((n : Int) + m) ≤ 9223372036854775807 ∧ ((120 : Nat) : Int) * W ((n : Int) + m) ≤ 281474976710656] (.side [leS n (mkL n add sh).f m (leH hs) 0 0 leZ = leS n (mkL n add sh).f m (leH hs) 0 0 leZ] (.side [leT m (leH hs) 0 n (leF add sh) = leT m (leH hs) 0 n (leF add sh)] (.leaf (.val (.one (.row (n + m) (leG n add sh hs)))))))
end Go.Proofs.Ytfooaikpcbnchaa

/-! ## Rpl -/
namespace Go.Proofs.Ytfooaikpcbnchaa
open Go Go.RowKit Sym
set_option maxRecDepth 100000

def okS (s : Shp) : Bool := (validF s 0 1000).1
theorem okE_S (s : Shp) : okE (toSh s) = okS s := by unfold okE okS; rw [vE_eq]
def figClassC (s : Shp) (b : B4) : Int := bif !(okS s) then 0 else classF s b
theorem figClassS_C (s : Shp) (b : B4) : figClassS s b = figClassC s b := by unfold figClassS figClassC; rw [okE_S]
def pClassC (s : Shp) (b : B4) : Int := foldN (fun i acc => foldF acc (figClassC (suO s i) b) (adO s i)) 0 (nuO s)
theorem pClass_C (s : Shp) (b : B4) : pClass s b = pClassC s b := by
  unfold pClass pClassC
  simp only [figClassS_C]
def figBndC (s : Shp) : B4 × Bool := bif okS s then bndF s else (⟨0, 0, 0, 0⟩, false)
/-! ### what is kept -/
def kN (keep : Nat → Bool) : Nat → Nat
  | 0 => 0
  | n + 1 => bif keep n then kN keep n + 1 else kN keep n
def kIx (keep : Nat → Bool) : Nat → Nat → Nat
  | 0, _ => 0
  | n + 1, j => bif keep n && Nat.beq (kN keep n) j then n else kIx keep n j
theorem kN_step (keep : Nat → Bool) {i : Nat} (h : keep i = true) : kN keep (i + 1) = kN keep i + 1 := by
  show (bif keep i then kN keep i + 1 else kN keep i) = _
  rw [h]; rfl
theorem kN_skip (keep : Nat → Bool) {i : Nat} (h : keep i = false) : kN keep (i + 1) = kN keep i := by
  show (bif keep i then kN keep i + 1 else kN keep i) = _
  rw [h]; rfl
theorem kIx_lt (keep : Nat → Bool) {j : Nat} : ∀ {n : Nat}, j < kN keep n → kIx keep n j < n ∧ keep (kIx keep n j) = true
  | 0, h => absurd h (Nat.not_lt_zero j)
  | n + 1, h => by
    show (bif keep n && Nat.beq (kN keep n) j then n else kIx keep n j) < n + 1 ∧ keep (bif keep n && Nat.beq (kN keep n) j then n else kIx keep n j) = true
    cases hk : keep n
    · rw [kN_skip keep hk] at h
      have := kIx_lt keep (j := j) (n := n) h
      exact ⟨by show kIx keep n j < n + 1; omega, this.2⟩
    · rw [kN_step keep hk] at h
      cases q : Nat.beq (kN keep n) j
      · have ne : kN keep n ≠ j := fun e => by rw [e, Nat.beq_refl] at q; cases q
        have := kIx_lt keep (j := j) (n := n) (by omega)
        exact ⟨by show kIx keep n j < n + 1; omega, this.2⟩
      · exact ⟨by show n < n + 1; omega, hk⟩
/-- the objects that are kept -/
def filL (keep : Nat → Bool) (s : Shp) : Shp := lForm (kN keep (nuO s)) (fun j => adO s (kIx keep (nuO s) j)) (fun j => suO s (kIx keep (nuO s) j))
/-- whether there is a bar -/
def hbF : Shp → Bool
  | .nil => false
  | .mk k _ _ _ _ _ n _ sub => bif k == 4 then true else !((runN (fun i (_ : Unit) => (!(hbF (sub i)), ())) () n).1)
/-! ### the count of cells -/
structure ExR where
  lo : Int
  hi : Int
  e : Int
  a : Int
end Go.Proofs.Ytfooaikpcbnchaa

/-! ## Cqh -/
namespace Go.Proofs.Ytfooaikpcbnchaa
open Go Go.RowKit Sym
set_option maxRecDepth 100000

/-- holes on a list -/
def lesL (n : Nat) (add : Nat → Bool) (sub : Nat → Shp) (m : Nat) (hs : Nat → Shp) : Shp := lForm (n + m) (fun i => bif Nat.blt i n then add i else false) (fun i => bif Nat.blt i n then sub i else hs (i - n))
end Go.Proofs.Ytfooaikpcbnchaa

/-! ## DynW -/
namespace Go.Proofs.Ytfooaikpcbnchaa.Dyn
open Go Go.RowKit Sym

/-- the arguments' slots, and what they show: it is only read -/
def initRA : Nat → List DV → List SV × List (Option HE)
  | _, [] => ([], [])
  | n, v :: vs => match flatD (cellsV v) with
    | true => let r := initRA n vs; (.v (instV 0 0 v) :: r.1, r.2)
    | false => let r := initRA (n + 1) vs; (.v (instV n 0 v) :: r.1, some (.raw (cellsV v)) :: r.2)
def initSR (fn : Func) (args : List DV) : St := { slots := (initRA 0 args).1 ++ List.replicate (fn.ntmps - args.length) .junk, heap := (initRA 0 args).2 }
def rfun (P : Program) (X : Tabs) (lp : Lp) (fuel : Nat) (fn : Func) (args : List DV) : Out :=
  match fn.body with
  | some c => lexec P X lp fuel c .leaf (initSR fn args)
  | none => .fail
section
variable {P : Program} {X : Tabs} {lp : Lp} {w0 : Base P} {w : World} {β : Env} {s : St} {a : Act}
theorem Mem.pushR {h : List (Option HE)} (m : Mem w0 β h w) {ds : List DC} {us : List Value} (hd : DenL w w0.R ds us) (hp : pOk ds = true) (hf : flatD ds = false) :
    ∃ β', (∀ n c, h.getD n none = some c → β' n = β n) ∧ Mem w0 β' (h ++ [some (.raw ds)]) w ∧ (instC h.length 0 ds).map (ren0 β') = us ∧ ∀ y ∈ instC h.length 0 ds, ∀ k ∈ refs0 y, ∃ c, (h ++ [some (HE.raw ds)]).getD k none = some c := by
  have hg : ∀ n, (h ++ [none]).getD n none = h.getD n none := fun n => by
    simp only [List.getD_eq_getElem?_getD, List.getElem?_append]
    split
    · rfl
    · rename_i hn
      rw [List.getElem?_eq_none (Nat.le_of_not_lt hn)]
      cases n - h.length with
      | zero => rfl
      | succ q => rfl
  have m0 : Mem w0 β (h ++ [none]) w := m.read hg rfl rfl rfl rfl
  obtain ⟨β', b1, b2, b3, b4, _⟩ := inst_memR m0 (fresh := h.length) (fun _ => ⟨by simp, by simp⟩) hd hp
  have e : heapSet (h ++ [none]) (updK true h.length ds) = h ++ [some (HE.raw ds)] := by
    unfold updK; rw [hf]; simp [heapSet]
  rw [e] at b2 b4
  exact ⟨β', fun n c hc => b1 n c ((hg n).trans hc), b2, b3 0 rfl, b4⟩

theorem init_argsR : ∀ (args : List DV) (us : List Value) (h : List (Option HE)) (β : Env), Mem w0 β h w → pOks args = true → DenVs w w0.R args us →
    ∃ β', (∀ n c, h.getD n none = some c → β' n = β n) ∧ Mem w0 β' (h ++ (initRA h.length args).2) w ∧ (initRA h.length args).1.length = us.length ∧ (∀ i u, us[i]? = some u → Den β' [] ((initRA h.length args).1.getD i .junk) u) ∧ (∀ i n, n ∈ names ((initRA h.length args).1.getD i .junk) → ∃ c, (h ++ (initRA h.length args).2).getD n none = some c) ∧ ∀ x ∈ (initRA h.length args).1, isG x = false
  | [], [], h, β, m, _, _ => ⟨β, fun _ _ _ => rfl, by simpa [initRA] using m, rfl, fun i u hu => by simp at hu, fun i n hn => by simp [initRA, names] at hn, fun x hx => by cases hx⟩
  | [], _ :: _, _, _, _, _, k => k.elim
  | _ :: _, [], _, _, _, _, k => k.elim
  | v :: vs, u :: us, h, β, m, hp, k => by
    simp only [pOks] at hp
    split at hp
    · rename_i hpv
      have hv : DenR w w0.R (.val v) u := k.1
      obtain ⟨ws, hd, hk⟩ := DenR_cells hv
      cases hfl : flatD (cellsV v) with
      | true =>
        obtain ⟨β', i1, i2, i3, i4, i5, i6⟩ := init_argsR vs us h β m hp k.2
        have e : initRA h.length (v :: vs) = (.v (instV 0 0 v) :: (initRA h.length vs).1, (initRA h.length vs).2) := by simp only [initRA]; rw [hfl]
        rw [e]
        have hx : ∀ β, ren β (instV 0 0 v) = u := fun β => (hk 0 β (inst_flat _ _ 0 hd hpv hfl)).1
        have hr : ∀ n, n ∉ refs (instV 0 0 v) := fun n hn => by
          obtain ⟨y, y1, y2⟩ := (hk 0 β (inst_flat _ _ 0 hd hpv hfl)).2 n hn
          have := (inst_refs _ 0 hpv y y1 n y2).2
          have h2 : flatD (cellsR (.val v)) = false := this
          simp only [cellsR] at h2; rw [hfl] at h2; cases h2
        refine ⟨β', i1, i2, by simp [i3], fun i z hz => ?_, fun i n hn => ?_, fun x hx' => ?_⟩
        · cases i with
          | zero => simp only [List.getElem?_cons_zero, Option.some.injEq] at hz; subst hz; exact (hx β').symm
          | succ i => exact i4 i z (by simpa using hz)
        · cases i with
          | zero => exact absurd hn (hr n)
          | succ i => exact i5 i n (by simpa using hn)
        · rcases List.mem_cons.1 hx' with rfl | hx'
          · rfl
          · exact i6 x hx'
      | false =>
        obtain ⟨β1, j1, j2, j3, j4⟩ := m.pushR (ds := cellsV v) (us := ws) hd hpv hfl
        have hlen : (h ++ [some (HE.raw (cellsV v))]).length = h.length + 1 := by simp
        obtain ⟨β', i1, i2, i3, i4, i5, i6⟩ := init_argsR vs us _ β1 j2 hp k.2
        rw [hlen] at i2 i3 i4 i5 i6
        have e : initRA h.length (v :: vs) = (.v (instV h.length 0 v) :: (initRA (h.length + 1) vs).1, some (.raw (cellsV v)) :: (initRA (h.length + 1) vs).2) := by simp only [initRA]; rw [hfl]
        rw [e]
        have eh : h ++ (some (HE.raw (cellsV v)) :: (initRA (h.length + 1) vs).2) = (h ++ [some (HE.raw (cellsV v))]) ++ (initRA (h.length + 1) vs).2 := by simp
        dsimp only
        rw [eh]
        obtain ⟨x1, x2⟩ := hk h.length β1 j3
        have hold : ∀ n c, h.getD n none = some c → (h ++ [some (HE.raw (cellsV v))]).getD n none = some c := fun n c hn => by
          have hlt : n < h.length := by
            rcases Nat.lt_or_ge n h.length with z | z
            · exact z
            · rw [List.getD_eq_getElem?_getD, List.getElem?_eq_none z] at hn; cases hn
          rw [List.getD_eq_getElem?_getD, List.getElem?_append_left hlt, ← List.getD_eq_getElem?_getD]; exact hn
        have hn1 : ∀ n ∈ refs (instV h.length 0 v), ∃ c, (h ++ [some (HE.raw (cellsV v))]).getD n none = some c := fun n hn => by
          obtain ⟨y, y1, y2⟩ := x2 n hn
          exact j4 y y1 n y2
        refine ⟨β', fun n c hn => (i1 n c (hold n c hn)).trans (j1 n c hn), i2, by simp [i3], fun i z hz => ?_, fun i n hn => ?_, fun x hx' => ?_⟩
        · cases i with
          | zero =>
            simp only [List.getElem?_cons_zero, Option.some.injEq] at hz; subst hz
            show u = ren β' (instV h.length 0 v)
            rw [ren_congr (β := β1) fun n hn => by obtain ⟨c, hc⟩ := hn1 n hn; exact i1 n c hc]
            exact x1.symm
          | succ i => exact i4 i z (by simpa using hz)
        · cases i with
          | zero =>
            obtain ⟨c, hc⟩ := hn1 n hn
            have hlt : n < (h ++ [some (HE.raw (cellsV v))]).length := by
              rcases Nat.lt_or_ge n (h ++ [some (HE.raw (cellsV v))]).length with z | z
              · exact z
              · rw [List.getD_eq_getElem?_getD, List.getElem?_eq_none z] at hc; cases hc
            exact ⟨c, by rw [List.getD_eq_getElem?_getD, List.getElem?_append_left hlt, ← List.getD_eq_getElem?_getD]; exact hc⟩
          | succ i => exact i5 i n (by simpa using hn)
        · rcases List.mem_cons.1 hx' with rfl | hx'
          · rfl
          · exact i6 x hx'
    · cases hp

/-- THE CONTRACT OF A FUNCTION, over what its arguments show. -/
theorem rcontract (ht : TabsOk P X) (hm : P.follows .mixedOrders = true) {K : Nat} {fn : Func} (hf : P.funcs[K]? = some fn) (hn : (fn.name == "runtime.NumGoroutine") = false) {c : Code} (hb : fn.body = some c) (hl : ∀ w0 : Base P, Dyn.LpOk P w0 lp (blocksL c)) {fuel : Nat} {args : List DV} {r : RV} {O : RO}
    (hp : pOks args = true) (hO : (rfun P X lp fuel fn args).ro P fn.results = O) (hs : O.sat fun r' => RVLe r' r) : CallR P K args r := by
  intro w F us hF hden
  have hrun : (callFunc K us.toArray).run P w = .ok (.enter K us.toArray) w := by
    unfold callFunc
    simp only [Sem.run_bind, run_program, Result.andThen_ok, hf, hn, hb]
    simp
  rw [hrun]
  refine ⟨rfl, ?_⟩
  let w0 : Base P := ⟨w, fun _ => False, fun _ h => h.elim, [], (fun _ h => by cases h), fun _ h => h.elim, F, fun b hb => ⟨hF b hb, by simp⟩⟩
  have m0 : Mem w0 (fun _ => (0, fun _ => .bool false)) [] w := ⟨fun n he hn => by simp at hn, fun n k c d b hn => by simp at hn, fun n t cs hn => by simp at hn, fun _ _ => rfl, ⟨rfl, rfl, rfl, Nat.le_refl _, fun _ _ _ => rfl⟩, fun n v i hn => by simp at hn⟩
  obtain ⟨β, _, i2, i3, i4, i5, i6⟩ := init_argsR (w0 := w0) args us [] _ m0 hp hden
  simp only [List.length_nil, List.nil_append] at i2 i3 i4 i5 i6
  have hlen : us.length = args.length := by
    have : ∀ (ds : List DV) (us : List Value), DenVs w F ds us → us.length = ds.length := by
      intro ds
      induction ds with
      | nil => intro us h; cases us with
        | nil => rfl
        | cons _ _ => exact h.elim
      | cons d ds ih => intro us h; cases us with
        | nil => exact h.elim
        | cons u us => simp only [List.length_cons]; rw [ih us h.2]
    exact this args us hden
  have m : M w0 β (initSR fn args) { tmps := us.toArray ++ Array.replicate (fn.ntmps - us.toArray.size) undef, defers := [] } w := by
    refine { defers := rfl, size := by simp [initSR, i3, hlen], slot := fun i u hu => ?_, locs := fun i n hn => ?_, mem := i2, tie := fun p hp => by cases hp }
    · by_cases hi : i < us.length
      · have e2 : (us.toArray ++ Array.replicate (fn.ntmps - us.toArray.size) undef)[i]? = us[i]? := by
          rw [Array.getElem?_append_left (by simpa using hi)]; simp
        rw [e2] at hu
        have e1 : (initSR fn args).slots.getD i .junk = (initRA 0 args).1.getD i .junk := by
          simp only [initSR, List.getD_eq_getElem?_getD]
          rw [List.getElem?_append_left (by rw [i3]; exact hi)]
        rw [e1]
        exact Den_congr (fun _ _ => rfl) (fun c hc => by
          have hg : isG ((initRA 0 args).1.getD i .junk) = false := by
            rw [List.getD_eq_getElem?_getD, List.getElem?_eq_getElem (by rw [i3]; exact hi)]
            exact i6 _ (List.getElem_mem _)
          rw [isG_conds hg] at hc; cases hc) (i4 i u hu)
      · have e1 : (initSR fn args).slots.getD i .junk = .junk := by
          simp only [initSR, List.getD_eq_getElem?_getD]
          rw [List.getElem?_append_right (by rw [i3]; omega), List.getElem?_replicate]
          split <;> rfl
        rw [e1]; trivial
    · by_cases hi : i < us.length
      · have e1 : (initSR fn args).slots.getD i .junk = (initRA 0 args).1.getD i .junk := by
          simp only [initSR, List.getD_eq_getElem?_getD]
          rw [List.getElem?_append_left (by rw [i3]; exact hi)]
        rw [e1] at hn
        exact i5 i n hn
      · have e1 : (initSR fn args).slots.getD i .junk = .junk := by
          simp only [initSR, List.getD_eq_getElem?_getD]
          rw [List.getElem?_append_right (by rw [i3]; omega), List.getElem?_replicate]
          split <;> rfl
        rw [e1] at hn; cases hn
  have ng : NoG (initSR fn args) := by
    intro x hx
    rcases List.mem_append.1 hx with hx | hx
    · exact i6 x hx
    · rw [(List.mem_replicate.1 hx).2]; rfl
  have hsat := ro_sat (hO ▸ hs)
  unfold rfun at hsat
  rw [hb] at hsat
  refine calls_of_wp hf hb ?_
  refine lexec_sound ht hm c (hl w0) .leaf _ _ _ w _ m ng hsat fun e s β a w' m' _ hl => ?_
  obtain ⟨he, r', hr, hq⟩ := hl
  obtain ⟨u, hu1, hu2⟩ := results_runD m' hr
  have hpost : a.defers = [] ∧ ∃ v', (results fn a.tmps).run P w' = .ok v' w' ∧ ∃ u, Ending.returned v' = .returned u ∧ DenR w' (fun b => w.heap.size ≤ b ∧ b < w'.heap.size ∧ PlainB w' b) r u ∧ Below w.heap.size w w' :=
    ⟨m'.defers, u, hu1, u, rfl, DenR_le hq (hu2.mono fun b hb => ⟨hb.resolve_left fun h => h, rfl⟩), ⟨m'.mem.below.os, m'.mem.below.tape, m'.mem.below.output, m'.mem.below.size, fun k hk => m'.mem.below.block k hk (fun h => by cases h)⟩⟩
  rcases he with rfl | rfl <;> exact hpost

/-- what bears no depth lies nowhere -/
theorem flat_den {w : World} {F G : Nat → Prop} : ∀ {ds : List DC} {us : List Value}, flatD ds = true → DenL w F ds us → DenL w G ds us
  | [], [], _, _ => trivial
  | [], _ :: _, _, h => h.elim
  | _ :: _, [], _, h => h.elim
  | d :: ds, u :: us, hf, h => by
    cases d with
    | p x => exact ⟨by cases h.1; exact .p _ (by assumption), flat_den (ds := ds) hf h.2⟩
    | row n f => cases hf
    | ptr cs => cases hf
theorem flat_denV {w : World} {F G : Nat → Prop} {v : DV} {u : Value} (hf : flatD (cellsV v) = true) (h : DenV w F v u) : DenV w G v u := by
  cases v with
  | one d => exact (flat_den (ds := [d]) (us := [u]) hf ⟨h, trivial⟩).1
  | agg ds =>
    obtain ⟨us, e, k⟩ := h
    exact ⟨us, e, flat_den hf k⟩
def flatDs : List DV → Bool
  | [] => true
  | v :: vs => match flatD (cellsV v) with
    | true => flatDs vs
    | false => false
theorem flat_denVs {w : World} {F G : Nat → Prop} : ∀ {vs : List DV} {us : List Value}, flatDs vs = true → DenVs w F vs us → DenVs w G vs us
  | [], [], _, _ => trivial
  | [], _ :: _, _, h => h.elim
  | _ :: _, [], _, h => h.elim
  | v :: vs, u :: us, hf, h => by
    simp only [flatDs] at hf
    split at hf
    · rename_i h1
      exact ⟨flat_denV h1 h.1, flat_denVs hf h.2⟩
    · cases hf
/-- a call that is given nothing but plain values -/
theorem CallD.r {K : Nat} {args : List DV} {res : RV} (h : CallD P K args res) (hf : flatDs args = true) : CallR P K args res := fun w F us _ hd => by
  have k := h w (fun _ => False) us (fun _ h => h.elim) (flat_denVs hf hd)
  split at k
  · rename_i u w' e
    exact ⟨k.1.mono fun b hb => ⟨hb.resolve_left fun z => z, rfl⟩, k.2⟩
  · rename_i f az w' e
    obtain ⟨rfl, k⟩ := k
    exact ⟨rfl, k.mono fun e w'' he => by
      obtain ⟨u, e1, e2, e3⟩ := he
      exact ⟨u, e1, e2.mono fun b hb => ⟨hb.resolve_left fun z => z, rfl⟩, e3⟩⟩
  · exact k.elim
def EntryROk (P : Program) (e : EntryD) : Prop := ∀ args r ps, e.2 args = some (r, ps) → allP ps → CallR P e.1 args r
theorem trOf_ok : ∀ {es : List EntryD}, (∀ e ∈ es, EntryROk P e) → ∀ K args r ps, tdOf es K args = some (r, ps) → allP ps → CallR P K args r
  | [], _ => fun K args r ps h => by simp [tdOf] at h
  | e :: es, h => fun K args r ps hv => by
    simp only [tdOf] at hv
    cases hb : Nat.beq e.1 K with
    | true =>
      rw [hb] at hv
      have : e.1 = K := Nat.eq_of_beq_eq_true hb
      subst this
      exact h e (by simp) args r ps hv
    | false =>
      rw [hb] at hv
      exact trOf_ok (es := es) (fun x hx => h x (by simp [hx])) K args r ps hv
/-- the tables, with calls whose arguments may lie anywhere -/
def trT (X : Tabs) (ds : List EntryD) : Tabs := { tb := X.tb, td := X.td, tr := tdOf ds, dres := X.dres, dty := X.dty, pin := X.pin, tx := X.tx, dtmp := X.dtmp, ext := X.ext, pl := X.pl, nw := X.nw, sl := X.sl, ow := X.ow }
theorem trT_ok {X : Tabs} (h : TabsOk P X) {ds : List EntryD} (hd : ∀ e ∈ ds, EntryROk P e) : TabsOk P (trT X ds) := ⟨h.nw, h.pl, h.tb, h.tx, h.td, trOf_ok hd, h.ow⟩
end
end Go.Proofs.Ytfooaikpcbnchaa.Dyn

/-! ## Raw -/
namespace Go.Proofs.Ytfooaikpcbnchaa
open Go Go.RowKit Sym
set_option maxRecDepth 100000

theorem CallR_le {P : Program} {K : Nat} {args args' : List Dyn.DV} {r : Dyn.RV} (h : Dyn.DVsLe args' args) (k : Dyn.CallR P K args r) : Dyn.CallR P K args' r := fun w F us hF hd => k w F us hF (Dyn.DenVs_le h hd)
theorem CallR_rle {P : Program} {K : Nat} {args : List Dyn.DV} {r r' : Dyn.RV} (h : Dyn.RVLe r r') (k : Dyn.CallR P K args r) : Dyn.CallR P K args r' := fun w F us hF hd => by
  have := k w F us hF hd
  split at this
  · rename_i u w' hr
    exact ⟨Dyn.DenR_le h this.1, this.2⟩
  · rename_i f as' w' hr
    refine ⟨this.1, this.2.mono fun e w'' he => ?_⟩
    obtain ⟨u, h1, h2, h3⟩ := he
    exact ⟨u, h1, Dyn.DenR_le h h2, h3⟩
  · exact this.elim
theorem en1R_ok {P : Program} {K : Nat} {α : Type} {q : Dec α} {e : α → Dyn.DV} {p : α → Prop} {F : α → Dyn.RV} (hq : DecOk q e p) (h : ∀ x, p x → Dyn.CallR P K [e x] (F x)) : Dyn.EntryROk P (K, en1D q F) := fun args r ps hr hp => by
  dsimp only at hr
  unfold en1D at hr
  split at hr
  · split at hr
    · rename_i x ps' hx
      simp only [Option.some.injEq, Prod.mk.injEq] at hr
      obtain ⟨rfl, rfl⟩ := hr
      obtain ⟨h1, h2⟩ := hq _ _ _ hx hp
      exact CallR_le (args := [e x]) ⟨h1, trivial⟩ (h x h2)
    · cases hr
  · cases hr
theorem en2R_ok {P : Program} {K : Nat} {α β : Type} {q : Dec α} {q2 : Dec β} {e : α → Dyn.DV} {e2 : β → Dyn.DV} {p : α → Prop} {p2 : β → Prop} {F : α → β → Dyn.RV} (hq : DecOk q e p) (hq2 : DecOk q2 e2 p2) (h : ∀ x y, p x → p2 y → Dyn.CallR P K [e x, e2 y] (F x y)) : Dyn.EntryROk P (K, en2D q q2 F) := fun args r ps hr hp => by
  dsimp only at hr
  unfold en2D at hr
  split at hr
  · split at hr
    · rename_i x ps' y qs' hx hy
      simp only [Option.some.injEq, Prod.mk.injEq] at hr
      obtain ⟨rfl, rfl⟩ := hr
      rw [allP_append] at hp
      obtain ⟨h1, h2⟩ := hq _ _ _ hx hp.1
      obtain ⟨h3, h4⟩ := hq2 _ _ _ hy hp.2
      exact CallR_le (args := [e x, e2 y]) ⟨h1, h3, trivial⟩ (h x y h2 h4)
    · cases hr
  · cases hr
theorem en3R_ok {P : Program} {K : Nat} {α β γ : Type} {q : Dec α} {q2 : Dec β} {q3 : Dec γ} {e : α → Dyn.DV} {e2 : β → Dyn.DV} {e3 : γ → Dyn.DV} {p : α → Prop} {p2 : β → Prop} {p3 : γ → Prop} {F : α → β → γ → Dyn.RV} (hq : DecOk q e p) (hq2 : DecOk q2 e2 p2) (hq3 : DecOk q3 e3 p3)
    (h : ∀ x y z, p x → p2 y → p3 z → Dyn.CallR P K [e x, e2 y, e3 z] (F x y z)) : Dyn.EntryROk P (K, en3D q q2 q3 F) := fun args r ps hr hp => by
  dsimp only at hr
  unfold en3D at hr
  split at hr
  · split at hr
    · rename_i x ps' y qs' z rs' hx hy hz
      simp only [Option.some.injEq, Prod.mk.injEq] at hr
      obtain ⟨rfl, rfl⟩ := hr
      rw [allP_append, allP_append] at hp
      obtain ⟨h1, h2⟩ := hq _ _ _ hx hp.1.1
      obtain ⟨h3, h4⟩ := hq2 _ _ _ hy hp.1.2
      obtain ⟨h5, h6⟩ := hq3 _ _ _ hz hp.2
      exact CallR_le (args := [e x, e2 y, e3 z]) ⟨h1, h3, h5, trivial⟩ (h x y z h2 h4 h6)
    · cases hr
  · cases hr
def tamSR (l : Ctr) (sm : Bool) (t : Int) (i : Nat) : Dyn.St := mkS 53 [(0, sH 0 0 l.n), (1, sB sm), (4, .k (.slice none 0 0)), (5, sH 1 0 i), (6, sI t)] [some (.raw [cCtr l]), some (.own 78 i (tamF l sm))]
def tamTR (l : Ctr) (sm : Bool) (t : Int) (i : Nat) (u : Int) (j : Nat) : Dyn.St := mkS 53 [(0, sH 0 0 l.n), (1, sB sm), (4, .k (.slice none 0 0)), (5, sH 1 0 i), (6, sI t), (7, sH 2 0 j), (8, sI u)] [some (.raw [cCtr l]), some (.own 78 i (tamF l sm)), some (.own 23 j (tamG l sm i))]
def tamLpR (l : Ctr) (sm : Bool) : Dyn.Lp := fun id s => match id with
  | 0 => some (.side [Dyn.nilSlot 5 78 (tamF l sm) (keepS 53 [0] tamK0 64 s) = tamSR l sm 0 0] (.leaf .normal (tamSR l sm (min l.n 4 : Nat) (min l.n 4))))
  | 2 =>
    let t := intD (s.slots.getD 6 .junk)
    some (.side [Dyn.nilSlot 7 23 (tamG l sm t.toNat) (keepS 53 [0, 1] tamK1 256 s) = tamTR l sm t t.toNat 0 0, 0 ≤ t ∧ t < l.n] (.leaf .normal (tamTR l sm t t.toNat (min (l.m t.toNat) 12 : Nat) (min (l.m t.toNat) 12))))
  | _ => none
def tamUR (l : Ctr) (sm : Bool) (t : Int) (i : Nat) (u : Int) (j : Nat) (q : P2) : Dyn.St := mkS 53 [(0, sH 0 0 l.n), (1, sB sm), (4, .k (.slice none 0 0)), (5, sH 1 0 i), (6, sI t), (7, sH 2 0 (j + 1)), (8, sI u)] [some (.raw [cCtr l]), some (.own 78 i (tamF l sm)), some (.own 23 (j + 1) (Dyn.appF j (tamG l sm i) (fun _ => cP q)))]
def tamVR (l : Ctr) (sm : Bool) (t : Int) (i : Nat) : Dyn.St := mkS 53 [(0, sH 0 0 l.n), (1, sB sm), (4, .k (.slice none 0 0)), (5, sH 1 0 (i + 1)), (6, sI t)] [some (.raw [cCtr l]), some (.own 78 (i + 1) (Dyn.appF i (tamF l sm) (fun _ => tamF l sm i)))]
def tamB1R (l : Ctr) (sm : Bool) (t : Int) (i : Nat) (j : Nat) : Dyn.Out :=
  .side [0 ≤ t ∧ t < l.n] (.ite (bif decide ((j : Int) < l.m t.toNat) then decide ((j : Int) < 12) else false)
    (.side [0 ≤ t ∧ t < l.n, 0 ≤ (j : Int) ∧ (j : Int) < l.m t.toNat]
      (.ite sm (.side [W (20 + 1) ≠ 0] (.side [szP 16 j] (.leaf .normal (tamUR l sm t i (W ((j : Int) + 1)) j (lClose (lPt (l.p t.toNat j)) 20)))))
        (.side [szP 16 j] (.leaf .normal (tamUR l sm t i (W ((j : Int) + 1)) j (lPt (l.p t.toNat j)))))))
    (.leaf (.exit 2) (tamTR l sm t i j j)))
def tamB0R (l : Ctr) (sm : Bool) (i : Nat) : Dyn.Out :=
  .ite (bif decide ((i : Int) < l.n) then decide ((i : Int) < 4) else false)
    (.side [tamTR l sm i i 0 0 = tamTR l sm i i 0 0, 0 ≤ (i : Int) ∧ (i : Int) < l.n] (.side [szP 24 i] (.leaf .normal (tamVR l sm (W ((i : Int) + 1)) i)))) (.leaf (.exit 0) (tamSR l sm i i))
theorem tam_B1R (l : Ctr) (sm : Bool) (t : Int) (i : Nat) (j : Nat) : (Dyn.lexec Try.prog tabT (tamLpR l sm) 3 (unloopD (blkD Try.f45.body 2)) .leaf (tamTR l sm t i j j)).rl (fun _ s => keepA 53 [0, 1] [7] tamK1 0 s) = tamB1R l sm t i j := by kernel_rfl
theorem tam_B0R (l : Ctr) (sm : Bool) (i : Nat) : (Dyn.lexec Try.prog tabT (tamLpR l sm) 3 (unloopD (blkD Try.f45.body 0)) .leaf (tamSR l sm i i)).rl (fun _ s => keepA 53 [0] [5] tamK0 0 s) = tamB0R l sm i := by kernel_rfl
theorem tam_innerR (l : Ctr) (sm : Bool) (w0 : Dyn.Base Try.prog) (s : Dyn.St) (o : Dyn.Out) (h : tamLpR l sm 2 s = some o) : Dyn.BlockSound Try.prog w0 2 (.loop (unloopD (blkD Try.f45.body 2))) s o := by
  simp only [tamLpR, Option.some.injEq] at h
  subst h
  refine side_two fun hS hi => ?_
  revert hS hi
  generalize intD (s.slots.getD 6 .junk) = t
  intro hS hi
  refine fold_block (fuel := 3) tabT_ok mo (lp := tamLpR l sm) (by rw [tam_b2]; exact lpOk_cons (fun s o h => by cases h) lpOk_nil) (fun j (_ : Unit) => tamTR l sm t t.toNat j j) (min (l.m t.toNat) 12) (fun _ _ => ()) () (fun _ s => keepA 53 [0, 1] [7] tamK1 0 s) (fun _ s => keepA_ent 53 _ _ _ 0 s) (fun j _ => tamB1R l sm t t.toNat j) (fun j _ => tam_B1R l sm t t.toNat j) (fun j hj => ?_) ?_ (hS ▸ (keepS_ent 53 (by decide) _ _ s).trans (Dyn.Ent.nilSlot (P := Try.prog) (k := 1) (by kernel_rfl) _ _))
  · have e1 : W ((j : Int) + 1) = ((j + 1 : Nat) : Int) := by rw [W_id (by omega) (by omega)]; omega
    have fit : ∀ q, cP q = tamG l sm t.toNat j → Dyn.Fits (tamUR l sm t t.toNat (W ((j : Int) + 1)) j q) (tamTR l sm t t.toNat ((j + 1 : Nat) : Int) (j + 1)) := fun q hq => by
      rw [e1]
      exact ⟨rfl, Dyn.HeLe.refl _, Dyn.HeLe.refl _, le_app hq, trivial⟩
    refine ⟨⟨hi, trivial⟩, fun _ => ⟨⟨hi, ⟨by omega, by omega⟩, trivial⟩, fun hs => ⟨⟨by decide, trivial⟩, ⟨szP_ok (by decide) (by omega), trivial⟩, rfl, ?_⟩, fun hs => ⟨⟨szP_ok (by decide) (by omega), trivial⟩, rfl, ?_⟩⟩, fun hf => ?_⟩
    · subst hs; exact fit _ rfl
    · subst hs; exact fit _ rfl
    · rw [Bool.eq_false_iff] at hf
      exact absurd (and_iff.2 ⟨by omega, by omega⟩) hf
  · refine ⟨⟨hi, trivial⟩, fun ht => ?_, fun _ => ⟨rfl, Dyn.Fits.refl _⟩⟩
    have := and_iff.1 ht
    omega
theorem tam_outerR (l : Ctr) (sm : Bool) (w0 : Dyn.Base Try.prog) (s : Dyn.St) (o : Dyn.Out) (h : tamLpR l sm 0 s = some o) : Dyn.BlockSound Try.prog w0 0 (.loop (unloopD (blkD Try.f45.body 0))) s o := by
  simp only [tamLpR, Option.some.injEq] at h
  subst h
  refine side_one fun hS => ?_
  refine fold_block (fuel := 3) tabT_ok mo (lp := tamLpR l sm) (by rw [tam_b0]; exact lpOk_cons (fun s o h => by cases h) (lpOk_cons (tam_innerR l sm w0) (lpOk_cons (fun s o h => by cases h) lpOk_nil))) (fun i (_ : Unit) => tamSR l sm i i) (min l.n 4) (fun _ _ => ()) () (fun _ s => keepA 53 [0] [5] tamK0 0 s) (fun _ s => keepA_ent 53 _ _ _ 0 s) (fun i _ => tamB0R l sm i) (fun i _ => tam_B0R l sm i) (fun i hi => ?_) ?_ (hS ▸ (keepS_ent 53 (by decide) _ _ s).trans (Dyn.Ent.nilSlot (P := Try.prog) (k := 0) (by kernel_rfl) _ _))
  · have e1 : W ((i : Int) + 1) = ((i + 1 : Nat) : Int) := by rw [W_id (by omega) (by omega)]; omega
    refine ⟨fun _ => ⟨⟨rfl, ⟨by omega, by omega⟩, trivial⟩, ⟨szP_ok (by decide) (by omega), trivial⟩, rfl, ?_⟩, fun hf => ?_⟩
    · rw [e1]; exact ⟨rfl, Dyn.HeLe.refl _, le_app rfl, trivial⟩
    · rw [Bool.eq_false_iff] at hf
      exact absurd (and_iff.2 ⟨by omega, by omega⟩) hf
  · refine ⟨fun ht => ?_, fun _ => ⟨rfl, Dyn.Fits.refl _⟩⟩
    have := and_iff.1 ht
    omega
theorem tame_okR (l : Ctr) (sm : Bool) : Dyn.CallR Try.prog 45 [dvC l, dvB sm] (.val (dvC (tameC l sm))) :=
  Dyn.rcontract (lp := tamLpR l sm) (fuel := 3) (X := tabT) tabT_ok mo Try.func45 (by kernel_rfl) (c := bodyD Try.f45.body) (by kernel_rfl)
    (fun w0 => by rw [tam_blocks]; exact lpOk_cons (tam_outerR l sm w0) (lpOk_cons (fun s o h => by cases h) (lpOk_cons (tam_innerR l sm w0) (lpOk_cons (fun s o h => by cases h) lpOk_nil))))
    (by kernel_rfl) (O := .side [tamSR l sm 0 0 = tamSR l sm 0 0] (.leaf (.val (.one (.row (min l.n 4) (tamF l sm)))))) (by kernel_rfl) ⟨⟨rfl, trivial⟩, rfl, fun _ _ => rfl⟩
def SmOkR (x : Sh) (g : Sh → Int → Bool) : Prop := ∀ d, Dyn.CallR Try.prog 14 [dvS x, dvI d] (rB (g x d))
def tabSmR (Pd : Sh → Prop) (g : Sh → Int → Bool) : Dyn.Tabs := Dyn.trT (Dyn.tabs tbF [] noD dtyP) (tdSm Pd g)
theorem tabSm_okR {Pd : Sh → Prop} {g : Sh → Int → Bool} (ih : ∀ x, Pd x → SmOkR x g) : Dyn.TabsOk Try.prog (tabSmR Pd g) :=
  Dyn.trT_ok (Dyn.tabs_ok tbF_ok (fun _ h => by cases h)) (List.forall_mem_cons.2 ⟨en2R_ok (qAnd_ok qS_ok) qI_ok fun x p h _ => ih x h.1 p, fun _ h => by cases h⟩)
def smHR (s : Sh) : List (Option Dyn.HE) := [some (.raw (cS s)), some (.cells 29 (shV 0 8 s))]
def smSR (s : Sh) (deep i : Int) : Dyn.St := mkS 52 [(1, sI deep), (2, sL 1), (4, .k (vb false)), (5, sI i)] (smHR s)
def smTR (s : Sh) (deep i : Int) : Dyn.St := mkS 52 [(1, sI deep), (2, sL 1), (4, .k (vb false)), (6, sI i)] (smHR s)
def smLpR (g : Sh → Int → Bool) (sh : Nat → Sh) (s : Sh) (deep : Int) : Dyn.Lp := fun id st => match id with
  | 0 => some (.side [keepA 52 [0, 1] [] smK0 (2 ^ 5) st = smSR s deep 0, s.l.n ≤ 12] (.ite (runN (smL s.l) () s.l.n).1 (.leaf .normal (smSR s deep s.l.n)) (.leaf .ret smR)))
  | 2 => some (.side [keepA 52 [0, 1] [] smK1 (2 ^ 6) st = smTR s deep 0, s.n ≤ 12] (.ite (runN (smP g sh deep) () s.n).1 (.leaf .normal (smTR s deep s.n)) (.leaf .ret smR)))
  | _ => none
def smB0R (s : Sh) (deep : Int) (i : Nat) : Dyn.Out :=
  .ite (decide ((i : Int) < s.l.n)) (.side [0 ≤ (i : Int) ∧ (i : Int) < s.l.n] (.ite (decide ((s.l.m i : Int) > 40)) (.leaf .ret smR) (.leaf .normal (smSR s deep (W (i + 1)))))) (.leaf (.exit 0) (smSR s deep i))
def smB2R (Pd : Sh → Prop) (g : Sh → Int → Bool) (sh : Nat → Sh) (s : Sh) (deep : Int) (i : Nat) : Dyn.Out :=
  .ite (decide ((i : Int) < s.n)) (.side [0 ≤ (i : Int) ∧ (i : Int) < s.n, Pd (sh i), ctrSelf (sh i).l] (.ite (!(g (sh i) (W (deep + 1)))) (.leaf .ret smR) (.leaf .normal (smTR s deep (W (i + 1)))))) (.leaf (.exit 2) (smTR s deep i))
theorem sm_B0R (Pd : Sh → Prop) (g : Sh → Int → Bool) (sh : Nat → Sh) (s : Sh) (deep : Int) (i : Nat) : (Dyn.lexec Try.prog (tabSmR Pd g) (smLpR g sh s deep) 3 (unloopD (blkD Try.f14.body 0)) .leaf (smSR s deep i)).rl (keepR 52 [0, 1] [] smK0 [4]) = smB0R s deep i := by kernel_rfl
def tabSnR (Pd : Sh → Prop) (g : Sh → Int → Bool) : Dyn.Tabs := Dyn.trT (Dyn.tabs tbF [] noD dtyS) (tdSm Pd g)
theorem tabSn_okR {Pd : Sh → Prop} {g : Sh → Int → Bool} (ih : ∀ x, Pd x → SmOkR x g) : Dyn.TabsOk Try.prog (tabSnR Pd g) :=
  Dyn.trT_ok (Dyn.tabs_ok tbF_ok (fun _ h => by cases h)) (List.forall_mem_cons.2 ⟨en2R_ok (qAnd_ok qS_ok) qI_ok fun x p h _ => ih x h.1 p, fun _ h => by cases h⟩)
theorem sm_B2R (Pd : Sh → Prop) (g : Sh → Int → Bool) (k : Int) (a b c : P2) (r : Int) (l : Ctr) (n : Nat) (add : Nat → Bool) (sh : Nat → Sh) (deep : Int) (i : Nat) :
    (Dyn.lexec Try.prog (tabSnR Pd g) (smLpR g sh (mkSh k a b c r l n add sh) deep) 3 (unloopD (blkD Try.f14.body 2)) .leaf (smTR (mkSh k a b c r l n add sh) deep i)).rl (keepR 52 [0, 1] [] smK1 [4]) = smB2R Pd g sh (mkSh k a b c r l n add sh) deep i := by kernel_rfl
theorem sm_loop0R {Pd : Sh → Prop} {g : Sh → Int → Bool} (ih : ∀ x, Pd x → SmOkR x g) (sh : Nat → Sh) (s : Sh) (deep : Int) (w0 : Dyn.Base Try.prog) (st : Dyn.St) (o : Dyn.Out) (h : smLpR g sh s deep 0 st = some o) : Dyn.BlockSound Try.prog w0 0 (.loop (unloopD (blkD Try.f14.body 0))) st o := by
  simp only [smLpR, Option.some.injEq] at h
  subst h
  refine side_two fun hS hn => ?_
  refine run_block (fuel := 3) (tabSm_okR ih) mo (lp := smLpR g sh s deep) (by rw [sm_b0]; exact lpOk_cons (fun s o h => by cases h) lpOk_nil) (fun i (_ : Unit) => smSR s deep i) s.l.n (smL s.l) () (fun _ => smR) (keepR 52 [0, 1] [] smK0 [4]) (keepR_ent 52 _ _ _ _) (fun i _ => smB0R s deep i) (fun i _ => sm_B0R Pd g sh s deep i) (fun i a hi ha => ?_) (fun a ha => ?_) (hS ▸ keepA_ent 52 _ _ _ _ st)
  · refine ⟨fun _ => ⟨⟨⟨by omega, by omega⟩, trivial⟩, fun hx => .inr ⟨rfl, ?_, Dyn.Fits.refl _⟩, fun hx => .inl ⟨rfl, ?_, ?_⟩⟩, fun hf => ?_⟩
    · unfold smL; rw [hx]; rfl
    · unfold smL; rw [hx]; rfl
    · rw [Wn1 hi (by omega)]; exact Dyn.Fits.refl _
    · rw [decide_eq_false_iff_not] at hf; omega
  · refine ⟨fun ht => ?_, fun _ => ⟨rfl, Dyn.Fits.refl _⟩⟩
    rw [decide_eq_true_eq] at ht; omega
theorem sm_loop2R {Pd : Sh → Prop} {g : Sh → Int → Bool} (ih : ∀ x, Pd x → SmOkR x g) (k : Int) (a b c : P2) (r : Int) (l : Ctr) (n : Nat) (add : Nat → Bool) (sh : Nat → Sh) (hP : ∀ i, i < n → Pd (sh i)) (deep : Int) (w0 : Dyn.Base Try.prog) (st : Dyn.St) (o : Dyn.Out) (h : smLpR g sh (mkSh k a b c r l n add sh) deep 2 st = some o) : Dyn.BlockSound Try.prog w0 2 (.loop (unloopD (blkD Try.f14.body 2))) st o := by
  simp only [smLpR, Option.some.injEq] at h
  subst h
  refine side_two fun hS hn => ?_
  have hn' : n ≤ 12 := hn
  refine run_block (fuel := 3) (tabSn_okR ih) mo (lp := smLpR g sh (mkSh k a b c r l n add sh) deep) (by rw [sm_b2]; exact lpOk_cons (fun s o h => by cases h) lpOk_nil) (fun i (_ : Unit) => smTR (mkSh k a b c r l n add sh) deep i) n (smP g sh deep) () (fun _ => smR) (keepR 52 [0, 1] [] smK1 [4]) (keepR_ent 52 _ _ _ _) (fun i _ => smB2R Pd g sh (mkSh k a b c r l n add sh) deep i) (fun i _ => sm_B2R Pd g k a b c r l n add sh deep i) (fun i a hi ha => ?_) (fun a ha => ?_) (hS ▸ keepA_ent 52 _ _ _ _ st)
  · refine ⟨fun _ => ⟨⟨⟨by omega, by show (i : Int) < (n : Int); omega⟩, hP i hi, ctrSelf_ok _, trivial⟩, fun hx => .inr ⟨rfl, ?_, Dyn.Fits.refl _⟩, fun hx => .inl ⟨rfl, ?_, ?_⟩⟩, fun hf => ?_⟩
    · simpa [smP] using hx
    · simpa [smP] using hx
    · rw [Wn1 hi (by omega)]; exact Dyn.Fits.refl _
    · rw [decide_eq_false_iff_not] at hf
      exact absurd (show (i : Int) < (n : Int) by omega) hf
  · refine ⟨fun ht => ?_, fun _ => ⟨rfl, Dyn.Fits.refl _⟩⟩
    rw [decide_eq_true_eq] at ht
    exact absurd (show (n : Int) < (n : Int) from ht) (by omega)
def tabS0R (Pd : Sh → Prop) (g : Sh → Int → Bool) : Dyn.Tabs := Dyn.trT (Dyn.tabs tbF [] noD noD) (tdSm Pd g)
theorem tabS0_okR {Pd : Sh → Prop} {g : Sh → Int → Bool} (ih : ∀ x, Pd x → SmOkR x g) : Dyn.TabsOk Try.prog (tabS0R Pd g) :=
  Dyn.trT_ok (Dyn.tabs_ok tbF_ok (fun _ h => by cases h)) (List.forall_mem_cons.2 ⟨en2R_ok (qAnd_ok qS_ok) qI_ok fun x p h _ => ih x h.1 p, fun _ h => by cases h⟩)
def smOR (g : Sh → Int → Bool) (sh : Nat → Sh) (s : Sh) (deep : Int) : Dyn.RO :=
  .ite (smBig s deep) (.leaf (rB false)) (.side [smSR s deep 0 = smSR s deep 0, s.l.n ≤ 12] (.ite (runN (smL s.l) () s.l.n).1 (.side [smTR s deep 0 = smTR s deep 0, s.n ≤ 12] (.ite (runN (smP g sh deep) () s.n).1 (.leaf (rB true)) (.leaf (rB false)))) (.leaf (rB false))))
theorem sm_OR (Pd : Sh → Prop) (g : Sh → Int → Bool) (sh : Nat → Sh) (s : Sh) (deep : Int) : (Dyn.rfun Try.prog (tabS0R Pd g) (smLpR g sh s deep) 3 Try.f14 [dvS s, dvI deep]).ro Try.prog Try.f14.results = smOR g sh s deep := by kernel_rfl
theorem sm_satR (g : Sh → Int → Bool) (sh : Nat → Sh) (s : Sh) (deep : Int) : (smOR g sh s deep).sat fun r => Dyn.RVLe r (rB (smallG g sh s deep)) := by
  have e : smallG g sh s deep = bif smBig s deep then false else bif (runN (smL s.l) () s.l.n).1 then (runN (smP g sh deep) () s.n).1 else false := rfl
  rw [e]
  have hb : smBig s deep = false → s.l.n ≤ 12 ∧ s.n ≤ 12 := fun h => by
    unfold smBig at h
    by_cases h1 : ((s.n : Int) > 12)
    · rw [decide_eq_true h1] at h; cases h
    · by_cases h2 : ((s.l.n : Int) > 12)
      · rw [decide_eq_true h2, decide_eq_false h1] at h; cases h
      · omega
  refine ⟨fun h => ?_, fun h => ⟨⟨rfl, (hb h).1, trivial⟩, fun h2 => ⟨⟨rfl, (hb h).2, trivial⟩, fun h3 => ?_, fun h3 => ?_⟩, fun h2 => ?_⟩⟩
  · rw [h]; exact ro_leaf rfl
  · rw [h, h2, h3]; exact ro_leaf rfl
  · rw [h, h2, h3]; exact ro_leaf rfl
  · rw [h, h2]; exact ro_leaf rfl
theorem small_lvlR {Pd : Sh → Prop} {g : Sh → Int → Bool} (ih : ∀ x, Pd x → SmOkR x g) (k : Int) (a b c : P2) (r : Int) (l : Ctr) (n : Nat) (add : Nat → Bool) (sh : Nat → Sh) (hP : ∀ i, i < n → Pd (sh i)) (deep : Int) :
    Dyn.CallR Try.prog 14 [dvS (mkSh k a b c r l n add sh), dvI deep] (rB (smallG g sh (mkSh k a b c r l n add sh) deep)) :=
  Dyn.rcontract (lp := smLpR g sh (mkSh k a b c r l n add sh) deep) (fuel := 3) (tabS0_okR ih) mo Try.func14 (by kernel_rfl) (c := bodyD Try.f14.body) (by kernel_rfl)
    (fun w0 => by rw [sm_blocks]; exact lpOk_cons (sm_loop0R ih sh _ deep w0) (lpOk_cons (fun s o h => by cases h) (lpOk_cons (sm_loop2R ih k a b c r l n add sh hP deep w0) (lpOk_cons (fun s o h => by cases h) lpOk_nil))))
    (by kernel_rfl) (sm_OR Pd g sh _ deep) (sm_satR g sh _ deep)
theorem small_okR : ∀ s : Shp, ShW s → SmOkR (toSh s) smallE := by
  intro s
  induction s with
  | nil => intro h; exact h.elim
  | mk k a b c r l n add sub ih =>
    intro h d
    rw [smallE_eq, smallF_lvl]
    exact small_lvlR (Pd := fun x => ∃ i, i < n ∧ x = toSh (sub i)) (fun x hx => by
      obtain ⟨i, hi, rfl⟩ := hx
      exact ih i (h i hi)) k a b c r l n add (fun i => toSh (sub i)) (fun i hi => ⟨i, hi, rfl⟩) d
theorem small_allR : ∀ x, PdW x → SmOkR x smallE := fun x hx d => by
  have k := small_okR _ hx.1 d
  rw [show smallE (toSh (ofSh x)) d = smallE x d by unfold smallE; rw [ofSh_toSh]] at k
  exact CallR_le (args := dvS (toSh (ofSh x)) :: [dvI d]) ⟨SLe.dv hx.2, Dyn.DVLe.refl _, trivial⟩ k
def tdTmR (Pd : Sh → Prop) (g : Sh → Bool → Int → Sh) : List Dyn.EntryD := [(45, en2D qC qB fun l q => .val (dvC (tameC l q))), (18, en3D (qAnd qS Pd) qB qI fun x q d => .val (dvS (g x q d)))]
def tabTmR (Pd : Sh → Prop) (g : Sh → Bool → Int → Sh) : Dyn.Tabs := Dyn.trT (Dyn.tabs tbT [(43, enPb fun p q => RV.pt (atP p q))] drTm dtyS) (tdTmR Pd g)
theorem tabTm_okR {Pd : Sh → Prop} {g : Sh → Bool → Int → Sh} (ih : ∀ x, Pd x → ∀ sm d, Dyn.CallR Try.prog 18 [dvS x, dvB sm, dvI d] (.val (dvS (g x sm d)))) : Dyn.TabsOk Try.prog (tabTmR Pd g) :=
  Dyn.trT_ok (Dyn.tabs_ok tbT_ok (List.forall_mem_cons.2 ⟨enPb_ok at_ok, fun _ h => by cases h⟩)) (List.forall_mem_cons.2 ⟨en2R_ok qC_ok qB_ok fun l q _ _ => tame_okR l q, List.forall_mem_cons.2 ⟨en3R_ok (qAnd_ok qS_ok) qB_ok qI_ok fun x q d h _ _ => ih x h.1 q d, fun _ h => by cases h⟩⟩)
def tmSR (s : Sh) (sm : Bool) (d i : Int) (n : Nat) (f : Nat → List Dyn.DC) : Dyn.St := mkS 154 [(2, sI d), (3, sL 1), (4, sL 2), (6, sL 3), (8, sL 4), (10, sI i)]
  [some (.raw (cS s)), some (.cells 29 (shV 0 8 s)), some (.cells 4 [vb sm]), some (.cells 29 tmZ), some (.cells 29 (tmO10 (tmKk s d) 5 n)), some (.own 45 n f)]
def tmLpR (g : Sh → Bool → Int → Sh) (sh : Nat → Sh) (add : Nat → Bool) (s : Sh) (sm : Bool) (d : Int) : Dyn.Lp := fun id st => match id with
  | 1 => some (.side [Dyn.nilCell 4 9 45 (tmF g sh add sm d) (keepA 154 [0, 1, 2] [6, 8] tmK (2 ^ 10) st) = tmSR s sm d 0 0 (tmF g sh add sm d)] (.leaf .normal (tmSR s sm d (tmN s d : Nat) (tmN s d) (tmF g sh add sm d))))
  | _ => none
def tmBdR (Pd : Sh → Prop) (g : Sh → Bool → Int → Sh) (sh : Nat → Sh) (add : Nat → Bool) (s : Sh) (sm : Bool) (d : Int) (i : Nat) : Dyn.Out :=
  .ite (bif decide ((i : Int) < s.n) then decide ((i : Int) < imax (W (4 - d)) 1) else false)
    (.side [0 ≤ (i : Int) ∧ (i : Int) < s.n, 0 ≤ (i : Int) ∧ (i : Int) < s.n, Pd (sh i), ctrSelf (sh i).l, szP 120 i] (.leaf .normal (tmSR s sm d (W (i + 1)) (i + 1) (Dyn.appF i (tmF g sh add sm d) (fun _ => tmF g sh add sm d i)))))
    (.leaf (.exit 1) (tmSR s sm d i i (tmF g sh add sm d)))
theorem tm_BdR (Pd : Sh → Prop) (g : Sh → Bool → Int → Sh) (k : Int) (a b c : P2) (r : Int) (l : Ctr) (n : Nat) (add : Nat → Bool) (sh : Nat → Sh) (sm : Bool) (d : Int) (i : Nat) :
    (Dyn.lexec Try.prog (tabTmR Pd g) (tmLpR g sh add (mkSh k a b c r l n add sh) sm d) 3 (unloopD (blkD Try.f18.body 1)) .leaf (tmSR (mkSh k a b c r l n add sh) sm d i i (tmF g sh add sm d))).rl (keepCR 154 [0, 1, 2, 3, 4] [] [(4, 9)] tmK [] []) = tmBdR Pd g sh add (mkSh k a b c r l n add sh) sm d i := by kernel_rfl
theorem tm_loopR {Pd : Sh → Prop} {g : Sh → Bool → Int → Sh} (ih : ∀ x, Pd x → ∀ sm d, Dyn.CallR Try.prog 18 [dvS x, dvB sm, dvI d] (.val (dvS (g x sm d)))) (k : Int) (a b c : P2) (r : Int) (l : Ctr) (n : Nat) (add : Nat → Bool) (sh : Nat → Sh) (hn : n ≤ 1000000000) (hP : ∀ i, i < n → Pd (sh i)) (sm : Bool) (d : Int) (w0 : Dyn.Base Try.prog) (st : Dyn.St) (o : Dyn.Out)
    (h : tmLpR g sh add (mkSh k a b c r l n add sh) sm d 1 st = some o) : Dyn.BlockSound Try.prog w0 1 (.loop (unloopD (blkD Try.f18.body 1))) st o := by
  simp only [tmLpR, Option.some.injEq] at h
  subst h
  refine side_one fun hS => ?_
  have hN : tmN (mkSh k a b c r l n add sh) d = min n (imax (W (4 - d)) 1).toNat := rfl
  have hM : 1 ≤ imax (W (4 - d)) 1 := by unfold imax; split <;> omega
  refine fold_block (fuel := 3) (tabTm_okR ih) mo (lp := tmLpR g sh add (mkSh k a b c r l n add sh) sm d) (by rw [tm_b1]; exact lpOk_cons (fun s o h => by cases h) lpOk_nil) (fun i (_ : Unit) => tmSR (mkSh k a b c r l n add sh) sm d i i (tmF g sh add sm d)) (tmN (mkSh k a b c r l n add sh) d) (fun _ _ => ()) () (keepCR 154 [0, 1, 2, 3, 4] [] [(4, 9)] tmK [] []) (keepCR_ent 154 _ _ _ _ _ _) (fun i _ => tmBdR Pd g sh add (mkSh k a b c r l n add sh) sm d i) (fun i _ => tm_BdR Pd g k a b c r l n add sh sm d i) (fun i hi => ?_) ?_ (hS ▸ (keepA_ent 154 _ _ _ _ st).trans (Dyn.Ent.nilCell (P := Try.prog) (k := 10) (by kernel_rfl) _ _))
  · rw [hN] at hi
    refine ⟨fun _ => ⟨⟨⟨by omega, by show (i : Int) < (n : Int); omega⟩, ⟨by omega, by show (i : Int) < (n : Int); omega⟩, hP i (by omega), ctrSelf_ok _, szP_ok (by decide) (by omega), trivial⟩, rfl, ?_⟩, fun hf => ?_⟩
    · rw [Wn1 (show i < n by omega) hn]
      exact ⟨rfl, Dyn.HeLe.refl _, Dyn.HeLe.refl _, Dyn.HeLe.refl _, Dyn.HeLe.refl _, Dyn.HeLe.refl _, le_app rfl, trivial⟩
    · rw [Bool.eq_false_iff] at hf
      exact absurd (and_iff.2 ⟨show (i : Int) < (n : Int) by omega, by omega⟩) hf
  · refine ⟨fun ht => ?_, fun _ => ⟨rfl, Dyn.Fits.refl _⟩⟩
    have ht := and_iff.1 ht
    have h1 : ((tmN (mkSh k a b c r l n add sh) d : Nat) : Int) < (n : Int) := ht.1
    have h2 := ht.2
    rw [hN] at h1 h2
    omega
def tmRkR (g : Sh → Bool → Int → Sh) (sh : Nat → Sh) (add : Nat → Bool) (s : Sh) (sm : Bool) (d r : Int) : Dyn.RO :=
  .ite (tmKk s d == 1) (.leaf (rvT (tmKk s d) (atP s.a sm) ze ze r nilR 0 noF))
  (.ite (bif tmKk s d == 3 then tmKk s d == 3 else tmKk s d == 4)
    (.ite (bif eqP (atP s.a sm) (atP s.b sm) then decide ((atP s.b sm).x > 0) else false) (.leaf (rvT (tmKk s d) (atP s.a sm) ⟨W ((atP s.b sm).x - 1), (atP s.b sm).y⟩ ze r nilR 0 noF))
      (.ite (eqP (atP s.a sm) (atP s.b sm)) (.leaf (rvT (tmKk s d) (atP s.a sm) ⟨W ((atP s.b sm).x + 1), (atP s.b sm).y⟩ ze r nilR 0 noF)) (.leaf (rvT (tmKk s d) (atP s.a sm) (atP s.b sm) ze r nilR 0 noF))))
  (.ite (tmKk s d == 5) (.leaf (rvT (tmKk s d) (arcAt s.c (band s.a.x 65535) s.b.x sm) (arcAt s.c (band s.a.y 65535) s.b.x sm) (arcC s.c sm) r nilR 0 noF))
  (.ite (tmKk s d == 2) (.side [ctrSelf s.l] (.leaf (rvT (tmKk s d) ze ze ze 0 (cCtr (tameC s.l sm)) 0 noF)))
  (.side [tmSR s sm d 0 0 (tmF g sh add sm d) = tmSR s sm d 0 0 (tmF g sh add sm d)] (.leaf (rvT (tmKk s d) ze ze ze 0 nilR (tmN s d) (tmF g sh add sm d)))))))
theorem tm_OR (Pd : Sh → Prop) (g : Sh → Bool → Int → Sh) (sh : Nat → Sh) (add : Nat → Bool) (s : Sh) (sm : Bool) (d : Int) : (Dyn.rfun Try.prog (tabTmR Pd g) (tmLpR g sh add s sm d) 3 Try.f18 [dvS s, dvB sm, dvI d]).ro Try.prog Try.f18.results = .ite sm (tmRkR g sh add s sm d (W ((lR s.r).tmod 15 + 1))) (tmRkR g sh add s sm d (lR s.r)) := by kernel_rfl
theorem tm_satkR (g : Sh → Bool → Int → Sh) (sh : Nat → Sh) (add : Nat → Bool) (s : Sh) (sm : Bool) (d : Int) : (tmRkR g sh add s sm d (tmR s sm)).sat fun r => Dyn.RVLe r (.val (dvS (tameG g sh add s sm d))) := by
  unfold tameG
  refine ⟨fun h => ?_, fun h => ⟨fun h2 => ⟨fun h3 => ?_, fun h3 => ⟨fun h4 => ?_, fun h4 => ?_⟩⟩, fun h2 => ⟨fun h3 => ?_, fun h3 => ⟨fun h4 => ⟨⟨ctrSelf_ok _, trivial⟩, ?_⟩, fun h4 => ⟨⟨rfl, trivial⟩, ?_⟩⟩⟩⟩⟩
  · rw [h]; exact rvT_le rfl rfl rfl rfl rfl nilR_le rfl fun _ _ => rfl
  · rw [h, h2]; exact rvT_le rfl rfl (by show tmB s sm = _; unfold tmB; rw [h3]; rfl) rfl rfl nilR_le rfl fun _ _ => rfl
  · rw [h, h2]; exact rvT_le rfl rfl (by show tmB s sm = _; unfold tmB; rw [h3, h4]; rfl) rfl rfl nilR_le rfl fun _ _ => rfl
  · rw [h, h2]; exact rvT_le rfl rfl (by show tmB s sm = _; unfold tmB; rw [h3, h4]; rfl) rfl rfl nilR_le rfl fun _ _ => rfl
  · rw [h, h2, h3]; exact rvT_le rfl rfl rfl rfl rfl nilR_le rfl fun _ _ => rfl
  · rw [h, h2, h3, h4]; exact rvT_le rfl rfl rfl rfl rfl (Dyn.DCLe.refl _) rfl fun _ _ => rfl
  · rw [h, h2, h3, h4]; exact rvT_le rfl rfl rfl rfl rfl nilR_le rfl fun _ _ => rfl
theorem tame_lvlR {Pd : Sh → Prop} {g : Sh → Bool → Int → Sh} (ih : ∀ x, Pd x → ∀ sm d, Dyn.CallR Try.prog 18 [dvS x, dvB sm, dvI d] (.val (dvS (g x sm d)))) (k : Int) (a b c : P2) (r : Int) (l : Ctr) (n : Nat) (add : Nat → Bool) (sh : Nat → Sh) (hn : n ≤ 1000000000) (hP : ∀ i, i < n → Pd (sh i)) (sm : Bool) (d : Int) :
    Dyn.CallR Try.prog 18 [dvS (mkSh k a b c r l n add sh), dvB sm, dvI d] (.val (dvS (tameG g sh add (mkSh k a b c r l n add sh) sm d))) :=
  Dyn.rcontract (lp := tmLpR g sh add (mkSh k a b c r l n add sh) sm d) (fuel := 3) (tabTm_okR ih) mo Try.func18 (by kernel_rfl) (c := bodyD Try.f18.body) (by kernel_rfl)
    (fun w0 => by rw [tm_blocks]; exact lpOk_cons (fun s o h => by cases h) (lpOk_cons (tm_loopR ih k a b c r l n add sh hn hP sm d w0) (lpOk_cons (fun s o h => by cases h) lpOk_nil)))
    (by kernel_rfl) (tm_OR Pd g sh add _ sm d) (by
      cases sm
      · exact ⟨fun h => (by cases h), fun _ => tm_satkR g sh add _ false d⟩
      · exact ⟨fun _ => tm_satkR g sh add _ true d, fun h => (by cases h)⟩)
theorem tameE_okR : ∀ s : Shp, ShB s → ∀ sm d, Dyn.CallR Try.prog 18 [dvS (toSh s), dvB sm, dvI d] (.val (dvS (tameE (toSh s) sm d))) := by
  intro s
  induction s with
  | nil => intro h; exact h.elim
  | mk k a b c r l n add sub ih =>
    intro h sm d
    rw [tameE_eq]
    refine CallR_rle (r := .val (dvS (tameG tameE (fun i => toSh (sub i)) add (mkSh k a b c r l n add (fun i => toSh (sub i))) sm d))) (tameS_lvl k a b c r l n add sub sm d) ?_
    exact tame_lvlR (Pd := fun x => ∃ i, i < n ∧ x = toSh (sub i)) (fun x hx => by
      obtain ⟨i, hi, rfl⟩ := hx
      exact ih i (h.2.2 i hi)) k a b c r l n add (fun i => toSh (sub i)) h.2.1 (fun i hi => ⟨i, hi, rfl⟩) sm d
theorem tame_allR : ∀ x, PdS x → ∀ sm d, Dyn.CallR Try.prog 18 [dvS x, dvB sm, dvI d] (.val (dvS (tameE x sm d))) := fun x hx sm d => by
  have k := tameE_okR _ hx.1 sm d
  rw [show tameE (toSh (ofSh x)) sm d = tameE x sm d by unfold tameE; rw [ofSh_toSh]] at k
  exact CallR_le (args := dvS (toSh (ofSh x)) :: [dvB sm, dvI d]) ⟨SLe.dv hx.2, Dyn.DVLe.refl _, Dyn.DVLe.refl _, trivial⟩ k
noncomputable def tabSbR : Dyn.Tabs := Dyn.trT (Dyn.tabs tbF [] noD dtyO) tdSb
theorem tabSb_okR : Dyn.TabsOk Try.prog tabSbR := Dyn.trT_ok (Dyn.tabs_ok tbF_ok (fun _ h => by cases h)) (List.forall_mem_cons.2 ⟨en2R_ok (qAnd_ok qS_ok) qI_ok fun x d h _ => small_allR x h.1 d, fun _ h => by cases h⟩)
def sbSR (s : Sh) (i : Int) : Dyn.St := mkS 20 [(0, sH 0 0 s.n), (2, .k (vb false)), (3, sI i)] [some (.raw [.row s.n s.f])]
noncomputable def sbLpR (sh : Nat → Sh) (s : Sh) : Dyn.Lp := fun id st => match id with
  | 0 => some (.side [keepA 20 [0] [] sbK (2 ^ 3) st = sbSR s 0, s.n ≤ 20] (.ite (runN (sbG sh) () s.n).1 (.leaf .normal (sbSR s s.n)) (.leaf .ret sbR)))
  | _ => none
noncomputable def sbBR (sh : Nat → Sh) (s : Sh) (i : Nat) : Dyn.Out :=
  .ite (decide ((i : Int) < s.n)) (.side [0 ≤ (i : Int) ∧ (i : Int) < s.n, PdW (sh i), ctrSelf (sh i).l] (.ite (!(smallE (sh i) 0)) (.leaf .ret sbR) (.leaf .normal (sbSR s (W (i + 1)))))) (.leaf (.exit 0) (sbSR s i))
theorem sb_BR (n : Nat) (add : Nat → Bool) (sh : Nat → Sh) (i : Nat) : (Dyn.lexec Try.prog tabSbR (sbLpR sh (mkL n add sh)) 3 (unloopD (blkD Try.f36.body 0)) .leaf (sbSR (mkL n add sh) i)).rl (keepR 20 [0] [] sbK [2]) = sbBR sh (mkL n add sh) i := by kernel_rfl
theorem sb_loopR (n : Nat) (add : Nat → Bool) (sh : Nat → Sh) (hP : ∀ i, i < n → PdW (sh i)) (w0 : Dyn.Base Try.prog) (st : Dyn.St) (o : Dyn.Out) (h : sbLpR sh (mkL n add sh) 0 st = some o) : Dyn.BlockSound Try.prog w0 0 (.loop (unloopD (blkD Try.f36.body 0))) st o := by
  simp only [sbLpR, Option.some.injEq] at h
  subst h
  refine side_two fun hS hn => ?_
  have hn' : n ≤ 20 := hn
  refine run_block (fuel := 3) tabSb_okR mo (lp := sbLpR sh (mkL n add sh)) (by rw [sb_b0]; exact lpOk_cons (fun s o h => by cases h) lpOk_nil) (fun i (_ : Unit) => sbSR (mkL n add sh) i) n (sbG sh) () (fun _ => sbR) (keepR 20 [0] [] sbK [2]) (keepR_ent 20 _ _ _ _) (fun i _ => sbBR sh (mkL n add sh) i) (fun i _ => sb_BR n add sh i) (fun i a hi ha => ?_) (fun a ha => ?_) (hS ▸ keepA_ent 20 _ _ _ _ st)
  · refine ⟨fun _ => ⟨⟨⟨by omega, by show (i : Int) < (n : Int); omega⟩, hP i hi, ctrSelf_ok _, trivial⟩, fun hx => .inr ⟨rfl, ?_, Dyn.Fits.refl _⟩, fun hx => .inl ⟨rfl, ?_, ?_⟩⟩, fun hf => ?_⟩
    · simpa [sbG] using hx
    · simpa [sbG] using hx
    · rw [Wn1 hi (by omega)]; exact Dyn.Fits.refl _
    · rw [decide_eq_false_iff_not] at hf
      exact absurd (show (i : Int) < (n : Int) by omega) hf
  · refine ⟨fun ht => ?_, fun _ => ⟨rfl, Dyn.Fits.refl _⟩⟩
    rw [decide_eq_true_eq] at ht
    exact absurd (show (n : Int) < (n : Int) from ht) (by omega)
noncomputable def sbOR (sh : Nat → Sh) (s : Sh) : Dyn.RO :=
  .ite (decide ((s.n : Int) > 20)) (.leaf (rB false)) (.side [sbSR s 0 = sbSR s 0, s.n ≤ 20] (.ite (runN (sbG sh) () s.n).1 (.leaf (rB true)) (.leaf (rB false))))
theorem sb_OR (sh : Nat → Sh) (s : Sh) : (Dyn.rfun Try.prog tabSbR (sbLpR sh s) 3 Try.f36 [dvL s]).ro Try.prog Try.f36.results = sbOR sh s := by kernel_rfl
theorem sb_lvlR (n : Nat) (add : Nat → Bool) (sh : Nat → Sh) (hP : ∀ i, i < n → PdW (sh i)) : Dyn.CallR Try.prog 36 [dvL (mkL n add sh)] (rB (bif decide ((n : Int) > 20) then false else (runN (sbG sh) () n).1)) :=
  Dyn.rcontract (lp := sbLpR sh (mkL n add sh)) (fuel := 3) tabSb_okR mo Try.func36 (by kernel_rfl) (c := bodyD Try.f36.body) (by kernel_rfl)
    (fun w0 => by rw [sb_blocks]; exact lpOk_cons (sb_loopR n add sh hP w0) (lpOk_cons (fun s o h => by cases h) lpOk_nil))
    (by kernel_rfl) (sb_OR sh _) (by
      refine ⟨fun h => ?_, fun h => ⟨⟨rfl, ?_, trivial⟩, fun h2 => ?_, fun h2 => ?_⟩⟩
      · rw [show decide ((n : Int) > 20) = true from h]; exact ro_leaf rfl
      · have : ¬ (n : Int) > 20 := of_decide_eq_false h
        show n ≤ 20
        omega
      · rw [show decide ((n : Int) > 20) = false from h, show (runN (sbG sh) () n).1 = true from h2]; exact ro_leaf rfl
      · rw [show decide ((n : Int) > 20) = false from h, show (runN (sbG sh) () n).1 = false from h2]; exact ro_leaf rfl)
theorem small21_okR : ∀ s : Shp, ShW s → Dyn.CallR Try.prog 36 [dvL (toSh s)] (rB (small21 s)) := by
  intro s h
  cases s with
  | nil => exact h.elim
  | mk k a b c r l n add sub =>
    have q := sb_lvlR n add (fun i => toSh (sub i)) fun i hi => PdW_mk (h i hi)
    unfold sbG at q
    simp only [smallE_eq] at q
    exact q
theorem small21_allR (x : Sh) (h : PdW x) : Dyn.CallR Try.prog 36 [dvL x] (rB (small21 (ofSh x))) := CallR_le (args := [dvL (toSh (ofSh x))]) ⟨SLe.dvL h.2, trivial⟩ (small21_okR _ h.1)
noncomputable def tabTlR : Dyn.Tabs := Dyn.trT (Dyn.tabs tbF [] drTl dtyO) tdTl
theorem tabTl_okR : Dyn.TabsOk Try.prog tabTlR := Dyn.trT_ok (Dyn.tabs_ok tbF_ok (fun _ h => by cases h)) (List.forall_mem_cons.2 ⟨en3R_ok (qAnd_ok qS_ok) qB_ok qI_ok fun x q d h _ _ => tame_allR x h.1 q d, fun _ h => by cases h⟩)
noncomputable def tlSR (s : Sh) (add : Nat → Bool) (sh : Nat → Sh) (sm : Bool) (t : Int) (i : Nat) : Dyn.St := mkS 34 [(0, sH 0 0 s.n), (1, sB sm), (4, .k (.slice none 0 0)), (5, sH 1 0 i), (6, sI t)] [some (.raw [.row s.n s.f]), some (.own 67 i (tlF add sh sm))]
noncomputable def tlLpR (add : Nat → Bool) (sh : Nat → Sh) (s : Sh) (sm : Bool) : Dyn.Lp := fun id st => match id with
  | 0 => some (.side [Dyn.nilSlot 5 67 (tlF add sh sm) (keepS 34 [0] tlK (2 ^ 6) st) = tlSR s add sh sm 0 0] (.leaf .normal (tlSR s add sh sm (min s.n 12 : Nat) (min s.n 12))))
  | _ => none
noncomputable def tlVR (s : Sh) (add : Nat → Bool) (sh : Nat → Sh) (sm : Bool) (i : Nat) : Dyn.St := mkS 34 [(0, sH 0 0 s.n), (1, sB sm), (4, .k (.slice none 0 0)), (5, sH 1 0 (i + 1)), (6, sI (W (i + 1)))] [some (.raw [.row s.n s.f]), some (.own 67 (i + 1) (Dyn.appF i (tlF add sh sm) (fun _ => tlF add sh sm i)))]
noncomputable def tlBR (s : Sh) (add : Nat → Bool) (sh : Nat → Sh) (sm : Bool) (i : Nat) : Dyn.Out :=
  .ite (bif decide ((i : Int) < s.n) then decide ((i : Int) < 12) else false)
    (.side [0 ≤ (i : Int) ∧ (i : Int) < s.n, 0 ≤ (i : Int) ∧ (i : Int) < s.n, PdS (sh i), ctrSelf (sh i).l, szP 120 i] (.leaf .normal (tlVR s add sh sm i)))
    (.leaf (.exit 0) (tlSR s add sh sm i i))
theorem tl_BR (n : Nat) (add : Nat → Bool) (sh : Nat → Sh) (sm : Bool) (i : Nat) : (Dyn.lexec Try.prog tabTlR (tlLpR add sh (mkL n add sh) sm) 3 (unloopD (blkD Try.f38.body 0)) .leaf (tlSR (mkL n add sh) add sh sm i i)).rl (fun _ s => keepA 34 [0] [5] tlK 0 s) = tlBR (mkL n add sh) add sh sm i := by kernel_rfl
theorem tl_loopR (n : Nat) (add : Nat → Bool) (sh : Nat → Sh) (sm : Bool) (hn : n ≤ 1000000000) (hP : ∀ i, i < n → PdS (sh i)) (w0 : Dyn.Base Try.prog) (st : Dyn.St) (o : Dyn.Out) (h : tlLpR add sh (mkL n add sh) sm 0 st = some o) : Dyn.BlockSound Try.prog w0 0 (.loop (unloopD (blkD Try.f38.body 0))) st o := by
  simp only [tlLpR, Option.some.injEq] at h
  subst h
  refine side_one fun hS => ?_
  refine fold_block (fuel := 3) tabTl_okR mo (lp := tlLpR add sh (mkL n add sh) sm) (by rw [tl_b0]; exact lpOk_cons (fun s o h => by cases h) lpOk_nil) (fun i (_ : Unit) => tlSR (mkL n add sh) add sh sm i i) (min n 12) (fun _ _ => ()) () (fun _ s => keepA 34 [0] [5] tlK 0 s) (fun _ s => keepA_ent 34 _ _ _ 0 s) (fun i _ => tlBR (mkL n add sh) add sh sm i) (fun i _ => tl_BR n add sh sm i) (fun i hi => ?_) ?_ (hS ▸ (keepS_ent 34 (by decide) _ _ st).trans (Dyn.Ent.nilSlot (P := Try.prog) (k := 10) (by kernel_rfl) _ _))
  · have hi' : i < n := by omega
    refine ⟨fun _ => ⟨⟨⟨by omega, by show (i : Int) < (n : Int); omega⟩, ⟨by omega, by show (i : Int) < (n : Int); omega⟩, hP i hi', ctrSelf_ok _, szP_ok (by decide) (by omega), trivial⟩, rfl, ?_⟩, fun hf => ?_⟩
    · unfold tlVR
      rw [Wn1 hi' hn]
      exact ⟨rfl, Dyn.HeLe.refl _, le_app rfl, trivial⟩
    · rw [Bool.eq_false_iff] at hf
      exact absurd (and_iff.2 ⟨show (i : Int) < (n : Int) by omega, by omega⟩) hf
  · refine ⟨fun ht => ?_, fun _ => ⟨rfl, Dyn.Fits.refl _⟩⟩
    have ht := and_iff.1 ht
    have h1 : ((min n 12 : Nat) : Int) < (n : Int) := ht.1
    have h2 : ((min n 12 : Nat) : Int) < 12 := ht.2
    omega
theorem tl_OR (add : Nat → Bool) (sh : Nat → Sh) (s : Sh) (sm : Bool) : (Dyn.rfun Try.prog tabTlR (tlLpR add sh s sm) 3 Try.f38 [dvL s, dvB sm]).ro Try.prog Try.f38.results = .side [tlSR s add sh sm 0 0 = tlSR s add sh sm 0 0] (.leaf (.val (.one (.row (min s.n 12) (tlF add sh sm))))) := by kernel_rfl
theorem tl_lvlR (n : Nat) (add : Nat → Bool) (sh : Nat → Sh) (sm : Bool) (hn : n ≤ 1000000000) (hP : ∀ i, i < n → PdS (sh i)) : Dyn.CallR Try.prog 38 [dvL (mkL n add sh), dvB sm] (.val (.one (.row (min n 12) (tlF add sh sm)))) :=
  Dyn.rcontract (lp := tlLpR add sh (mkL n add sh) sm) (fuel := 3) tabTl_okR mo Try.func38 (by kernel_rfl) (c := bodyD Try.f38.body) (by kernel_rfl)
    (fun w0 => by rw [tl_blocks]; exact lpOk_cons (tl_loopR n add sh sm hn hP w0) (lpOk_cons (fun s o h => by cases h) lpOk_nil))
    (by kernel_rfl) (tl_OR add sh _ sm) ⟨⟨rfl, trivial⟩, rfl, fun _ _ => rfl⟩
theorem tame21_okR : ∀ s : Shp, ShB s → ∀ sm, Dyn.CallR Try.prog 38 [dvL (toSh s), dvB sm] (.val (dvL (toSh (tame21 s sm)))) := by
  intro s h sm
  cases s with
  | nil => exact h.elim
  | mk k a b c r l n add sub =>
    have q := tl_lvlR n add (fun i => toSh (sub i)) sm h.2.1 fun i hi => PdS_mk (h.2.2 i hi)
    unfold tlF at q
    simp only [tameE_eq] at q
    exact q
theorem tame21_allR (x : Sh) (h : PdS x) (sm : Bool) : Dyn.CallR Try.prog 38 [dvL x, dvB sm] (.val (dvL (toSh (tame21 (ofSh x) sm)))) := CallR_le (args := [dvL (toSh (ofSh x)), dvB sm]) ⟨SLe.dvL h.2, Dyn.DVLe.refl _, trivial⟩ (tame21_okR _ h.1 sm)
end Go.Proofs.Ytfooaikpcbnchaa

/-! ## Cqi -/
namespace Go.Proofs.Ytfooaikpcbnchaa
open Go Go.RowKit Sym
set_option maxRecDepth 100000

/-- a row that shows a list of objects -/
def PxL (n : Nat) (f : Nat → List Dyn.DC) : Prop := ∃ (add : Nat → Bool) (sub : Nat → Shp), n ≤ 100000 ∧ (∀ i, i < n → ShB (sub i) ∧ cntS (sub i) ≤ 100000000) ∧ ∀ i, i < n → f i = partC (add i) (toSh (sub i))
open Classical in
noncomputable def lstOf (n : Nat) (f : Nat → List Dyn.DC) : Shp := if h : PxL n f then lForm n h.choose h.choose_spec.choose else L0
def PL (s : Shp) : Prop := ∃ (n : Nat) (add : Nat → Bool) (sub : Nat → Shp), s = lForm n add sub ∧ n ≤ 100000 ∧ ∀ i, i < n → ShB (sub i) ∧ cntS (sub i) ≤ 100000000
theorem lst_spec {n : Nat} {f : Nat → List Dyn.DC} (h : PxL n f) : ∃ add sub, lstOf n f = lForm n add sub ∧ n ≤ 100000 ∧ (∀ i, i < n → ShB (sub i) ∧ cntS (sub i) ≤ 100000000) ∧ ∀ i, i < n → f i = partC (add i) (toSh (sub i)) := by
  have e : lstOf n f = lForm n h.choose h.choose_spec.choose := by unfold lstOf; rw [dif_pos h]
  exact ⟨_, _, e, h.choose_spec.choose_spec⟩
theorem PL.B {s : Shp} (h : PL s) : ShB s := by
  obtain ⟨n, add, sub, rfl, hn, hs⟩ := h
  exact ⟨CtrB_ze, by omega, fun i hi => (hs i hi).1⟩
noncomputable def qLs : Dec Shp
  | .one (.row n f) => some (lstOf n f, [PxL n f])
  | _ => none
theorem qLs_ok : DecOk qLs (fun s => dvL (toSh s)) PL := fun d x ps h hp => by
  unfold qLs at h; split at h
  · rename_i n f
    simp only [Option.some.injEq, Prod.mk.injEq] at h
    obtain ⟨rfl, rfl⟩ := h
    obtain ⟨add, sub, e, hn, hs, hf⟩ := lst_spec hp.1
    rw [e]
    exact ⟨⟨rfl, hf⟩, n, add, sub, rfl, hn, hs⟩
  · cases h
/-- a row that shows holes -/
def PxH (m : Nat) (h : Nat → List Dyn.DC) : Prop := ∃ (hs : Nat → Shp), m ≤ 100000 ∧ (∀ i, i < m → ShB (hs i) ∧ cntS (hs i) ≤ 100000000) ∧ ∀ i, i < m → h i = cS (toSh (hs i))
open Classical in
noncomputable def hlOf (m : Nat) (h : Nat → List Dyn.DC) : Shp := if k : PxH m h then lForm m (fun _ => false) k.choose else L0
theorem hl_spec {m : Nat} {h : Nat → List Dyn.DC} (k : PxH m h) : ∃ hs, hlOf m h = lForm m (fun _ => false) hs ∧ m ≤ 100000 ∧ (∀ i, i < m → ShB (hs i) ∧ cntS (hs i) ≤ 100000000) ∧ ∀ i, i < m → h i = cS (toSh (hs i)) := by
  have e : hlOf m h = lForm m (fun _ => false) k.choose := by unfold hlOf; rw [dif_pos k]
  exact ⟨_, e, k.choose_spec⟩
noncomputable def dvH (s : Shp) : Dyn.DV := .one (.row (nuO s) fun i => cS (toSh (suO s i)))
noncomputable def lesS (s h : Shp) : Shp := lesL (nuO s) (adO s) (suO s) (nuO h) (suO h)
end Go.Proofs.Ytfooaikpcbnchaa

/-! ## DynY -/
namespace Go.Proofs.Ytfooaikpcbnchaa.Dyn
open Go Go.RowKit Sym
section
variable {P : Program} {X : Tabs} {lp : Lp} {w0 : Base P} {w : World} {β : Env} {s : St} {a : Act}
/-! ### a function that gives a row of its own -/
def resOwn (e : TypeId) (rs : Array ResultVar) (s : St) : Option RV :=
  match rs.toList with
  | [.tmp t] => match named (s.slots.getD t .junk) with
    | some (.slice (some a) _ _) => match a.spot, a.off, s.heap.getD a.block none with
      | some _, 0, some (.own e' n f) => if e' = e then some (.val (.one (.row n f))) else none
      | _, _, _ => none
    | _ => none
  | _ => none
def Out.ow (e : TypeId) (rs : Array ResultVar) : Out → RO
  | .leaf x s => match x, resOwn e rs s with
    | .exit _, _ => .fail
    | _, some r => .leaf r
    | _, none => .fail
  | .ite b x y => .ite b (x.ow e rs) (y.ow e rs)
  | .side ps x => .side ps (x.ow e rs)
  | .fail => .fail
theorem ow_sat {e : TypeId} {rs : Array ResultVar} {Q : RV → Prop} : ∀ {o : Out}, (o.ow e rs).sat Q → o.sat fun x s => (x = .normal ∨ x = .ret) ∧ ∃ r, resOwn e rs s = some r ∧ Q r
  | .leaf x s, h => by
    cases hr : resOwn e rs s with
    | none =>
      simp only [Out.ow, hr] at h
      cases x <;> exact h.elim
    | some r =>
      simp only [Out.ow, hr] at h
      cases x with
      | exit id => exact h.elim
      | normal => exact ⟨.inl rfl, r, hr, h⟩
      | ret => exact ⟨.inr rfl, r, hr, h⟩
  | .ite b x y, h => ⟨fun hb => ow_sat (o := x) (h.1 hb), fun hb => ow_sat (o := y) (h.2 hb)⟩
  | .side ps x, h => ⟨h.1, ow_sat (o := x) h.2⟩
  | .fail, h => h.elim
theorem resOwn_sound {fn : Func} {e : TypeId} (m : M w0 β s a w) {r : RV} (h : resOwn e fn.results s = some r) {n : Nat} {f : Nat → List DC} (hr : RVLe r (.val (.one (.row n f)))) : ∃ u, (results fn a.tmps).run P w = .ok u w ∧ OwnRes P w0.w w w0.F e n f u := by
  unfold resOwn at h
  split at h
  · rename_i t ht
    split at h
    · rename_i ad n0 c0 hv
      split at h
      · rename_i sp e' n' f' hsp hoff hn
        split at h
        · rename_i hee
          simp only [Option.some.injEq] at h; subst h; subst hee
          obtain ⟨rfl, hf⟩ := hr
          have hd : a.tmps.getD t undef = (β ad.block).2 0 := by
            have : Den β s.slots (s.slots.getD t .junk) (a.tmps.getD t undef) := by
              rw [Array.getD_eq_getD_getElem?]
              cases hu : a.tmps[t]? with
              | some u => exact m.slot t u hu
              | none =>
                have hs : s.slots.length ≤ t := by rw [← m.size]; exact Array.getElem?_eq_none_iff.1 hu
                have : s.slots.getD t .junk = .junk := by simp [List.getElem?_eq_none hs]
                rw [this]; trivial
            have e2 := named_eval this hv
            rw [show a.tmps.getD t undef = _ from e2]
            simp only [ren, ren1, ren0, renP, hsp, hoff]
          refine ⟨(β ad.block).2 0, ?_, ?_⟩
          · have e1 : fn.results = #[.tmp t] := by apply Array.ext'; rw [ht]
            rw [← hd]
            unfold results
            rw [e1]
            simp
          · obtain ⟨size, xs, s1, s2, s3, s4⟩ := m.mem.ok _ _ hn
            refine ⟨size, xs, s1, s2, s3, fun i hi => ?_⟩
            rw [← hf i hi]
            refine ⟨(s4 i hi).1, fun j hj => ?_⟩
            obtain ⟨v, v1, v2⟩ := (s4 i hi).2 j hj
            refine ⟨v, v1, v2.mono fun b hb => ⟨?_, rfl⟩⟩
            rcases hb with z | z
            · refine ⟨.inl z, fun k => ?_⟩
              have := (s3.lt b k).1; have := w0.lt b z; omega
            · exact ⟨.inr ⟨z.1, z.2.1⟩, fun k => z.2.2 _ _ hn k⟩
        · cases h
      · cases h
    · cases h
  · cases h
/-- THE CONTRACT OF A FUNCTION that gives a row of its own. -/
theorem ocontract (ht : TabsOk P X) (hm : P.follows .mixedOrders = true) {K : Nat} {fn : Func} (hf : P.funcs[K]? = some fn) (hn : (fn.name == "runtime.NumGoroutine") = false) {c : Code} (hb : fn.body = some c) (hl : ∀ w0 : Base P, Dyn.LpOk P w0 lp (blocksL c)) {fuel : Nat} {args : List DV} {e : TypeId} {n : Nat} {f : Nat → List DC} {O : RO}
    (hp : pOks args = true) (hO : (dfun P X lp fuel fn args).ow e fn.results = O) (hs : O.sat fun r' => RVLe r' (.val (.one (.row n f)))) : CallW P K args e n f := by
  intro w F us hF hden
  have hrun : (callFunc K us.toArray).run P w = .ok (.enter K us.toArray) w := by
    unfold callFunc
    simp only [Sem.run_bind, run_program, Result.andThen_ok, hf, hn, hb]
    simp
  rw [hrun]
  refine ⟨rfl, ?_⟩
  let w0 : Base P := ⟨w, F, fun b hb => (hF b hb).1, [], (fun _ h => by cases h), fun b hb => (hF b hb).2, fun _ => False, fun _ h => h.elim⟩
  have m0 : Mem w0 (fun _ => (0, fun _ => .bool false)) [] w := ⟨fun n he hn => by simp at hn, fun n k c d b hn => by simp at hn, fun n t cs hn => by simp at hn, fun _ _ => rfl, ⟨rfl, rfl, rfl, Nat.le_refl _, fun _ _ _ => rfl⟩, fun n v i hn => by simp at hn⟩
  obtain ⟨β, _, i2, i3, i4, i5, i6⟩ := init_args (w0 := w0) args us [] _ m0 (fun b hb => .inl hb) hp hden
  simp only [List.length_nil, List.nil_append] at i2 i3 i4 i5 i6
  have hlen : us.length = args.length := by
    have : ∀ (ds : List DV) (us : List Value), DenVs w F ds us → us.length = ds.length := by
      intro ds
      induction ds with
      | nil => intro us h; cases us with
        | nil => rfl
        | cons _ _ => exact h.elim
      | cons d ds ih => intro us h; cases us with
        | nil => exact h.elim
        | cons u us => simp only [List.length_cons]; rw [ih us h.2]
    exact this args us hden
  have m : M w0 β (initS fn args) { tmps := us.toArray ++ Array.replicate (fn.ntmps - us.toArray.size) undef, defers := [] } w := by
    refine { defers := rfl, size := by simp [initS, i3, hlen], slot := fun i u hu => ?_, locs := fun i n hn => ?_, mem := i2, tie := fun p hp => by cases hp }
    · by_cases hi : i < us.length
      · have e2 : (us.toArray ++ Array.replicate (fn.ntmps - us.toArray.size) undef)[i]? = us[i]? := by
          rw [Array.getElem?_append_left (by simpa using hi)]; simp
        rw [e2] at hu
        have e1 : (initS fn args).slots.getD i .junk = (initA 0 args).1.getD i .junk := by
          simp only [initS, List.getD_eq_getElem?_getD]
          rw [List.getElem?_append_left (by rw [i3]; exact hi)]
        rw [e1]
        exact Den_congr (fun _ _ => rfl) (fun c hc => by
          have hg : isG ((initA 0 args).1.getD i .junk) = false := by
            rw [List.getD_eq_getElem?_getD, List.getElem?_eq_getElem (by rw [i3]; exact hi)]
            exact i6 _ (List.getElem_mem _)
          rw [isG_conds hg] at hc; cases hc) (i4 i u hu)
      · have e1 : (initS fn args).slots.getD i .junk = .junk := by
          simp only [initS, List.getD_eq_getElem?_getD]
          rw [List.getElem?_append_right (by rw [i3]; omega), List.getElem?_replicate]
          split <;> rfl
        rw [e1]; trivial
    · by_cases hi : i < us.length
      · have e1 : (initS fn args).slots.getD i .junk = (initA 0 args).1.getD i .junk := by
          simp only [initS, List.getD_eq_getElem?_getD]
          rw [List.getElem?_append_left (by rw [i3]; exact hi)]
        rw [e1] at hn
        exact i5 i n hn
      · have e1 : (initS fn args).slots.getD i .junk = .junk := by
          simp only [initS, List.getD_eq_getElem?_getD]
          rw [List.getElem?_append_right (by rw [i3]; omega), List.getElem?_replicate]
          split <;> rfl
        rw [e1] at hn; cases hn
  have ng : NoG (initS fn args) := by
    intro x hx
    rcases List.mem_append.1 hx with hx | hx
    · exact i6 x hx
    · rw [(List.mem_replicate.1 hx).2]; rfl
  have hsat := ow_sat (hO ▸ hs)
  unfold dfun at hsat
  rw [hb] at hsat
  refine calls_of_wp hf hb ?_
  refine lexec_sound ht hm c (hl w0) .leaf _ _ _ w _ m ng hsat fun e' s β a w' m' _ hl => ?_
  obtain ⟨he, r', hr, hq⟩ := hl
  obtain ⟨u, hu1, hu2⟩ := resOwn_sound m' hr hq
  have hpost : a.defers = [] ∧ ∃ v', (results fn a.tmps).run P w' = .ok v' w' ∧ ∃ u, Ending.returned v' = .returned u ∧ OwnRes P w w' F e n f u ∧ Below w.heap.size w w' :=
    ⟨m'.defers, u, hu1, u, rfl, hu2, ⟨m'.mem.below.os, m'.mem.below.tape, m'.mem.below.output, m'.mem.below.size, fun k hk => m'.mem.below.block k hk (fun h => by cases h)⟩⟩
  rcases he with rfl | rfl <;> exact hpost
abbrev EntryO := Nat × (List DV → Option ((TypeId × Nat × (Nat → List DC)) × List Prop))
def owOf : List EntryO → Nat → Option (List DV → Option ((TypeId × Nat × (Nat → List DC)) × List Prop))
  | [], _ => none
  | e :: es, K => bif Nat.beq e.1 K then some e.2 else owOf es K
def EntryOOk (P : Program) (e : EntryO) : Prop := ∀ args t n g ps, e.2 args = some ((t, n, g), ps) → allP ps → CallW P e.1 args t n g
theorem owOf_ok : ∀ {es : List EntryO}, (∀ e ∈ es, EntryOOk P e) → ∀ K f args t n g ps, owOf es K = some f → f args = some ((t, n, g), ps) → allP ps → CallW P K args t n g
  | [], _ => fun K f args t n g ps h => by cases h
  | e :: es, h => fun K f args t n g ps hk hv => by
    simp only [owOf] at hk
    cases hb : Nat.beq e.1 K with
    | true =>
      rw [hb] at hk
      have : e.1 = K := Nat.eq_of_beq_eq_true hb
      subst this
      simp only [cond_true, Option.some.injEq] at hk; subst hk
      exact h e (by simp) args t n g ps hv
    | false =>
      rw [hb] at hk
      exact owOf_ok (es := es) (fun x hx => h x (by simp [hx])) K f args t n g ps hk hv
def owT (X : Tabs) (es : List EntryO) : Tabs := { tb := X.tb, td := X.td, tr := X.tr, dres := X.dres, dty := X.dty, pin := X.pin, tx := X.tx, dtmp := X.dtmp, ext := X.ext, pl := X.pl, nw := X.nw, sl := X.sl, ow := owOf es }
theorem owT_ok {X : Tabs} (h : TabsOk P X) {es : List EntryO} (he : ∀ e ∈ es, EntryOOk P e) : TabsOk P (owT X es) := ⟨h.nw, h.pl, h.tb, h.tx, h.td, h.tr, owOf_ok he⟩
end
end Go.Proofs.Ytfooaikpcbnchaa.Dyn

/-! ## Cqo -/
namespace Go.Proofs.Ytfooaikpcbnchaa
open Go Go.RowKit Sym
set_option maxRecDepth 100000

theorem CallW_d {P : Program} {K : Nat} {v v' x x' : Dyn.DV} {t : TypeId} {n : Nat} {f : Nat → List Dyn.DC} (h : Dyn.DVLe v v') (h2 : DVd x x') (k : Dyn.CallW P K [v', x'] t n f) : Dyn.CallW P K [v, x] t n f := fun ww F us hF hd => k ww F us hF (by
  cases us with
  | nil => exact hd
  | cons u us => exact (by
    cases us with
    | nil => exact hd.2.elim
    | cons u2 us => exact ⟨Dyn.DenV_le h hd.1, DVd.den h2 hd.2.1, hd.2.2⟩))
def en2O {α β : Type} (q : Dec α) (q2 : Dec β) (t : TypeId) (n : α → β → Nat) (F : α → β → Nat → List Dyn.DC) : List Dyn.DV → Option ((TypeId × Nat × (Nat → List Dyn.DC)) × List Prop)
  | [a, b] => match q a, q2 b with
    | some (x, ps), some (y, qs) => some ((t, n x y, F x y), ps ++ qs)
    | _, _ => none
  | _ => none
theorem en2O_ok {P : Program} {K : Nat} {α β : Type} {q : Dec α} {q2 : Dec β} {e : α → Dyn.DV} {e2 : β → Dyn.DV} {p : α → Prop} {p2 : β → Prop} {t : TypeId} {n : α → β → Nat} {F : α → β → Nat → List Dyn.DC} (hq : DecOk q e p) (hq2 : ∀ d x ps, q2 d = some (x, ps) → allP ps → DVd d (e2 x) ∧ p2 x) (h : ∀ x y, p x → p2 y → Dyn.CallW P K [e x, e2 y] t (n x y) (F x y)) : Dyn.EntryOOk P (K, en2O q q2 t n F) := fun args t' n' g ps hr hp => by
  dsimp only at hr
  unfold en2O at hr
  split at hr
  · split at hr
    · rename_i x ps' y qs' hx hy
      simp only [Option.some.injEq, Prod.mk.injEq] at hr
      obtain ⟨⟨rfl, rfl, rfl⟩, rfl⟩ := hr
      rw [allP_append] at hp
      obtain ⟨h1, h2⟩ := hq _ _ _ hx hp.1
      obtain ⟨h3, h4⟩ := hq2 _ _ _ hy hp.2
      exact CallW_d h1 h3 (h x y h2 h4)
    · cases hr
  · cases hr

theorem cS_dC {x : Sh} {r : Int} : cS x ≠ dC r := fun h => by
  have h8 : (cS x)[8]? = (dC r)[8]? := by rw [h]
  have e : (some (cCtr x.l) : Option Dyn.DC) = some (.row 0 noF) := h8
  simp only [Option.some.injEq] at e
  unfold cCtr at e
  injection e with _ e2
  have := congrFun e2 0
  unfold noF at this
  cases this
def LitH (m : Nat) (h : Nat → List Dyn.DC) : Prop := m = 1 ∧ h 0 = dC 1000
open Classical in
noncomputable def hlD (m : Nat) (h : Nat → List Dyn.DC) : Shp := if LitH m h then lForm 1 (fun _ => false) (fun _ => discS 1000) else hlOf m h
def PxHd (m : Nat) (h : Nat → List Dyn.DC) : Prop := LitH m h ∨ (¬ LitH m h ∧ PxH m h)
noncomputable def qHd : Dec Shp
  | .one (.row m h) => some (hlD m h, [PxHd m h])
  | _ => none
theorem disc_cnt (r : Int) : cntS (discS r) ≤ 100000000 := by
  have e : cntS (discS r) = 0 := rfl
  omega
theorem qHd_ok : ∀ d x ps, qHd d = some (x, ps) → allP ps → DVd d (dvH x) ∧ PL x := fun d x ps h hp => by
  unfold qHd at h; split at h
  · rename_i m g
    simp only [Option.some.injEq, Prod.mk.injEq] at h
    obtain ⟨rfl, rfl⟩ := h
    rcases hp.1 with hl | ⟨hl, hx⟩
    · unfold hlD
      rw [if_pos hl]
      obtain ⟨rfl, h0⟩ := hl
      refine ⟨DLe.rowL fun i hi => ?_, 1, _, _, rfl, by decide, fun i hi => ⟨disc_B 1000, disc_cnt 1000⟩⟩
      have : i = 0 := Nat.lt_one_iff.1 hi
      subst this
      rw [h0]; exact dC_le 1000
    · unfold hlD
      rw [if_neg hl]
      obtain ⟨hs, e, hn, h1, hf⟩ := hl_spec hx
      rw [e]
      refine ⟨DLe.rowL fun i hi => ?_, m, _, hs, rfl, hn, h1⟩
      rw [hf i hi]; exact DLL.refl _
  · cases h
theorem hlD_lit {h : Nat → List Dyn.DC} (h0 : h 0 = dC 1000) : PxHd 1 h ∧ hlD 1 h = lForm 1 (fun _ => false) (fun _ => discS 1000) := by
  have k : LitH 1 h := ⟨rfl, h0⟩
  exact ⟨.inl k, by unfold hlD; rw [if_pos k]⟩
theorem hlD_px {m : Nat} {h : Nat → List Dyn.DC} (k : PxH m h) : PxHd m h ∧ hlD m h = hlOf m h := by
  have hn : ¬ LitH m h := fun ⟨e, h0⟩ => by
    subst e
    obtain ⟨hs, _, _, hf⟩ := k
    exact cS_dC ((hf 0 (by decide)).symm.trans h0)
  exact ⟨.inr ⟨hn, k⟩, by unfold hlD; rw [if_neg hn]⟩
theorem le_W (n : Nat) (add : Nat → Bool) (sh : Nat → Sh) (m : Nat) (hs : Nat → Sh) : (Dyn.dfun Try.prog tabLe (leLp n add sh m hs) 3 Try.f39 [dvL (mkL n add sh), .one (.row m (leH hs))]).ow 67 Try.f39.results = leO n add sh m hs := by kernel_rfl
theorem lessW_lvl (n : Nat) (add : Nat → Bool) (sh : Nat → Sh) (m : Nat) (hs : Nat → Sh) (hn : n + m ≤ 1000000) (h1 : ∀ i, i < n → PdS (sh i) ∧ PdC (sh i)) (h2 : ∀ i, i < m → PdS (hs i) ∧ PdC (hs i)) : Dyn.CallW Try.prog 39 [dvL (mkL n add sh), .one (.row m (leH hs))] 67 (n + m) (leG n add sh hs) :=
  Dyn.ocontract (lp := leLp n add sh m hs) (fuel := 3) tabLe_ok mo Try.func39 (by kernel_rfl) (c := bodyD Try.f39.body) (by kernel_rfl)
    (fun w0 => by rw [le_blocks]; exact lpOk_cons (le_loop0 n add sh m hs (by omega) h1 w0) (lpOk_cons (fun s o h => by cases h) (lpOk_cons (le_loop2 n add sh m hs (by omega) h2 w0) (lpOk_cons (fun s o h => by cases h) lpOk_nil))))
    (by kernel_rfl) (le_W n add sh m hs) (by
      have e : W ((n : Int) + m) = n + m := W_id (by omega) (by omega)
      refine ⟨⟨?_, trivial⟩, ⟨rfl, trivial⟩, ⟨rfl, trivial⟩, ⟨rfl, fun _ _ => rfl⟩⟩
      rw [e]; exact ⟨by omega, by omega, by omega, by omega⟩)
theorem pLessW_ok (n : Nat) (add : Nat → Bool) (sub : Nat → Shp) (m : Nat) (hs : Nat → Shp) (hn : n + m ≤ 1000000) (h1 : ∀ i, i < n → ShB (sub i) ∧ cntS (sub i) ≤ 100000000) (h2 : ∀ i, i < m → ShB (hs i) ∧ cntS (hs i) ≤ 100000000) : Dyn.CallW Try.prog 39 [dvL (toSh (lForm n add sub)), .one (.row m fun i => cS (toSh (hs i)))] 67 (n + m) (toSh (lesL n add sub m hs)).f := by
  have q := lessW_lvl n add (fun i => toSh (sub i)) m (fun i => toSh (hs i)) hn (fun i hi => ⟨PdS_mk (h1 i hi).1, by unfold PdC; rw [ofSh_toSh]; exact (h1 i hi).2⟩) fun i hi => ⟨PdS_mk (h2 i hi).1, by unfold PdC; rw [ofSh_toSh]; exact (h2 i hi).2⟩
  have e : leG n add (fun i => toSh (sub i)) (fun i => toSh (hs i)) = (toSh (lesL n add sub m hs)).f := funext fun i => by
    show leG n add (fun i => toSh (sub i)) (fun i => toSh (hs i)) i = partC (bif Nat.blt i n then add i else false) (toSh (bif Nat.blt i n then sub i else hs (i - n)))
    unfold leG leF cpE
    simp only [ofSh_toSh]
    cases Nat.blt i n <;> rfl
  rw [e] at q
  exact q
noncomputable def tdPt : List Dyn.EntryD := [(37, en0R (rB true)), (40, en2D qLs qX fun s b => rI (pClass s b)), (41, en2D qLs qP fun s p => rB (pHas s p))]
noncomputable def owPt : List Dyn.EntryO := [(39, en2O qLs qHd 67 (fun s h => (toSh (lesS s h)).n) (fun s h => (toSh (lesS s h)).f))]
noncomputable def trPt : List Dyn.EntryD := [(14, en2D (qAnd qS PdW) qI fun x d => rB (smallE x d)), (18, en3D (qAnd qS PdS) qB qI fun x q d => .val (dvS (tameE x q d))), (36, en1D (qAnd qL PdW) fun x => rB (small21 (ofSh x))), (38, en2D (qAnd qL PdS) qB fun x q => .val (dvL (toSh (tame21 (ofSh x) q))))]
def drPt (K : Nat) : Bool := Nat.beq K 39 || Nat.beq K 38 || Nat.beq K 18
noncomputable def tabPt : Dyn.Tabs := Dyn.owT (Dyn.trT (Dyn.tabs tbF tdPt drPt dtyQ) trPt) owPt
theorem tabPt_ok : Dyn.TabsOk Try.prog tabPt := Dyn.owT_ok (Dyn.trT_ok (Dyn.tabs_ok tbF_ok (List.forall_mem_cons.2 ⟨en0R_ok awake21, List.forall_mem_cons.2 ⟨en2D_ok qLs_ok qX_ok fun s b h _ => pClass_ok s h.B b, List.forall_mem_cons.2 ⟨en2D_ok qLs_ok qP_ok fun s p h _ => pHas_ok s h.B p, fun _ h => by cases h⟩⟩⟩))
  (List.forall_mem_cons.2 ⟨en2R_ok (qAnd_ok qS_ok) qI_ok fun x d h _ => small_allR x h.1 d, List.forall_mem_cons.2 ⟨en3R_ok (qAnd_ok qS_ok) qB_ok qI_ok fun x q d h _ _ => tame_allR x h.1 q d, List.forall_mem_cons.2 ⟨en1R_ok (qAnd_ok qL_ok) fun x h => small21_allR x h.1, List.forall_mem_cons.2 ⟨en2R_ok (qAnd_ok qL_ok) qB_ok fun x q h _ => tame21_allR x h.1 q, fun _ h => by cases h⟩⟩⟩⟩))
  (List.forall_mem_cons.2 ⟨en2O_ok qLs_ok qHd_ok fun s h hl hh => (by
      obtain ⟨n, add, sub, rfl, hn, hs⟩ := hl
      obtain ⟨m, ad2, hu, rfl, hm, hh⟩ := hh
      exact pLessW_ok n add sub m hu (by omega) hs hh), fun _ h => by cases h⟩)
end Go.Proofs.Ytfooaikpcbnchaa

/-! ## Tue -/
namespace Go.Proofs.Ytfooaikpcbnchaa
open Go Go.RowKit Sym
set_option maxRecDepth 100000

def an (a b : Bool) : Bool := bif a then b else false
end Go.Proofs.Ytfooaikpcbnchaa

/-! ## Cqp -/
namespace Go.Proofs.Ytfooaikpcbnchaa
open Go Go.RowKit Sym
set_option maxRecDepth 100000

theorem mergeDC_self (b : Bool) (x : Dyn.DC) : Dyn.mergeDC b x x = x := by
  cases x with
  | p v => show Dyn.DC.p (mergeN 3 b v v) = .p v; cases b
           · rw [mergeN_false]
           · rw [mergeN_true]
  | row n f => cases b <;> rfl
  | ptr c => cases b <;> rfl
theorem zip_self (b : Bool) : ∀ l : List Dyn.DC, List.zipWith (Dyn.mergeDC b) l l = l
  | [] => rfl
  | x :: l => by rw [List.zipWith_cons_cons, mergeDC_self, zip_self b l]
theorem le_app2 {t : TypeId} {n : Nat} {f g : Nat → List Dyn.DC} (h0 : g 0 = f n) (h1 : g 1 = f (n + 1)) : Dyn.HeLe (some (.own t (n + 2) (Dyn.appF n f g))) (some (.own t (n + 2) f)) := by
  refine ⟨rfl, rfl, fun i hi => ?_⟩
  unfold Dyn.appF
  by_cases k : i < n
  · rw [show Nat.blt i n = true from by rw [Nat.blt_eq]; exact k]; rfl
  · rw [show Nat.blt i n = false from by rw [Bool.eq_false_iff]; intro h; rw [Nat.blt_eq] at h; exact k h]
    by_cases e : i = n
    · subst e; rw [Nat.sub_self]; exact h0
    · have : i = n + 1 := by omega
      subst this
      rw [Nat.add_sub_cancel_left]; exact h1
noncomputable def ptF (add : Nat → Bool) (sh : Nat → Sh) (i : Nat) : List Dyn.DC := partC (add (i / 2)) (sh (i / 2))
noncomputable def ptS (T : Sh) (σ : Sh) (b : B4) (p : P2) (t : Int) (i : Nat) (F : Nat → List Dyn.DC) : Dyn.St := mkS 125 [(0, sH 0 0 T.n), (6, sL 1), (7, sL 2), (11, sL 3), (12, sH 5 0 (2 * i)), (13, sI t)] [some (.deep [.row T.n T.f]), some (.cells 29 (Dyn.instC 4 0 (cS σ))), some (.cells 47 (bxV b)), some (.cells 23 [vi p.x, vi p.y]), some (.deep (cS σ)), some (.own 67 (2 * i) F)]
def ptK : List Nat := [0, 6, 7, 11, 12, 13]
noncomputable def ptLp (T : Sh) (σ : Sh) (b : B4) (p : P2) (F : Nat → List Dyn.DC) : Dyn.Lp := fun id st => match id with
  | 0 => some (.side [Dyn.nilSlot 12 67 F (keepC 125 [] [0, 6, 7, 11] [(2, 8)] ptK (2 ^ 13) st) = ptS T σ b p 0 0 F] (.leaf .normal (ptS T σ b p (T.n : Nat) T.n F)))
  | _ => none
noncomputable def ptB (n : Nat) (add : Nat → Bool) (sh : Nat → Sh) (σ : Sh) (b : B4) (p : P2) (i : Nat) (F : Nat → List Dyn.DC) : Dyn.Out :=
  .ite (decide ((i : Int) < n)) (.side [0 ≤ (i : Int) ∧ (i : Int) < n, 0 ≤ (i : Int) ∧ (i : Int) < n, szP 120 (2 * i + 1)]
    (.leaf .normal (ptS (mkL n add sh) σ b p (W (i + 1)) (i + 1) (Dyn.appF (2 * i) F (Dyn.pickL 0 [partC (add i) (sh i), partC (add i) (sh i)]))))) (.leaf (.exit 0) (ptS (mkL n add sh) σ b p i i F))
theorem pt_B (n : Nat) (add : Nat → Bool) (sh : Nat → Sh) (σ : Sh) (b : B4) (p : P2) (i : Nat) (F G : Nat → List Dyn.DC) : (Dyn.lexec Try.prog tabPt (ptLp (mkL n add sh) σ b p G) 3 (unloopD (blkD Try.f10.body 0)) .leaf (ptS (mkL n add sh) σ b p i i F)).rl (fun _ s => keepA 125 [0, 1, 2, 3, 4] [12] ptK 0 s) = ptB n add sh σ b p i F := by kernel_rfl
theorem pt_blocks : blocksL (bodyD Try.f10.body) = [(0, .loop (unloopD (blkD Try.f10.body 0))), (1, blkD Try.f10.body 1)] := by kernel_rfl
theorem pt_b0 : blocksL (unloopD (blkD Try.f10.body 0)) = [(1, blkD Try.f10.body 1)] := by kernel_rfl
theorem pt_loop (n : Nat) (add : Nat → Bool) (sh : Nat → Sh) (σ : Sh) (b : B4) (p : P2) (hn : n ≤ 100000) (w0 : Dyn.Base Try.prog) (st : Dyn.St) (o : Dyn.Out) (h : ptLp (mkL n add sh) σ b p (ptF add sh) 0 st = some o) : Dyn.BlockSound Try.prog w0 0 (.loop (unloopD (blkD Try.f10.body 0))) st o := by
  simp only [ptLp, Option.some.injEq] at h
  subst h
  refine side_one fun hS => ?_
  refine fold_block (fuel := 3) tabPt_ok mo (lp := ptLp (mkL n add sh) σ b p (ptF add sh)) (by rw [pt_b0]; exact lpOk_cons (fun s o h => by cases h) lpOk_nil) (fun i (_ : Unit) => ptS (mkL n add sh) σ b p i i (ptF add sh)) n (fun _ _ => ()) () (fun _ s => keepA 125 [0, 1, 2, 3, 4] [12] ptK 0 s) (fun _ s => keepA_ent 125 _ _ _ 0 s) (fun i _ => ptB n add sh σ b p i (ptF add sh)) (fun i _ => pt_B n add sh σ b p i _ _) (fun i hi => ?_) ?_ (hS ▸ (keepC_ent 125 [] _ _ _ _ st).trans (Dyn.Ent.nilSlot (P := Try.prog) (k := 10) (by kernel_rfl) _ _))
  · refine ⟨fun _ => ⟨⟨⟨by omega, by show (i : Int) < (n : Int); omega⟩, ⟨by omega, by show (i : Int) < (n : Int); omega⟩, szP_ok (by decide) (by omega), trivial⟩, rfl, ?_⟩, fun hf => ?_⟩
    · rw [Wn1 hi (by omega)]
      have e0 : ptF add sh (2 * i) = partC (add i) (sh i) := by unfold ptF; rw [show 2 * i / 2 = i by omega]
      have e1 : ptF add sh (2 * i + 1) = partC (add i) (sh i) := by unfold ptF; rw [show (2 * i + 1) / 2 = i by omega]
      exact ⟨rfl, Dyn.HeLe.refl _, Dyn.HeLe.refl _, Dyn.HeLe.refl _, Dyn.HeLe.refl _, Dyn.HeLe.refl _, le_app2 ((zip_self _ _).trans e0.symm) ((zip_self _ _).trans e1.symm), trivial⟩
    · rw [decide_eq_false_iff_not] at hf
      exact absurd (show (i : Int) < (n : Int) by omega) hf
  · refine ⟨fun ht => ?_, fun _ => ⟨rfl, Dyn.Fits.refl _⟩⟩
    rw [decide_eq_true_eq] at ht
    exact absurd (show (n : Int) < (n : Int) from ht) (by omega)
/-! ### the run -/
def ptH (σ : Sh) : Nat → List Dyn.DC := Dyn.pickL 0 [cS σ]
def ptH2 (σ : Sh) : Nat → List Dyn.DC := Dyn.pickL 0 [cS σ, cS σ]
def ptHa : Nat → List Dyn.DC := Dyn.pickL 0 [dC 1000]
noncomputable def ptOne (T σ : Sh) : Sh := toSh (lesS (lstOf T.n T.f) (hlD 1 (ptH σ)))
noncomputable def ptBoth (T σ : Sh) : Sh := toSh (lesS (lstOf T.n T.f) (hlD 2 (ptH2 σ)))
noncomputable def ptAll (T : Sh) : Sh := toSh (lesS (lstOf T.n T.f) (hlD 1 ptHa))
noncomputable def ptAn (T : Sh) : Nat → List Dyn.DC := Dyn.appF (ptAll T).n (ptAll T).f T.f
noncomputable def ptV1 (T : Sh) (F : Nat → List Dyn.DC) (b : B4) : Bool := pClass (lstOf (2 * T.n) F) b == pClass (lstOf T.n T.f) b
noncomputable def ptV2 (T : Sh) (F : Nat → List Dyn.DC) (b : B4) (p : P2) : Bool := an (ptV1 T F b) (pHas (lstOf (2 * T.n) F) p == pHas (lstOf T.n T.f) p)
noncomputable def ptV3 (T σ : Sh) (F : Nat → List Dyn.DC) (b : B4) (p : P2) : Bool := an (ptV2 T F b p) (pClass (lstOf (ptBoth T σ).n (ptBoth T σ).f) b == pClass (lstOf (ptOne T σ).n (ptOne T σ).f) b)
noncomputable def ptV4 (T σ : Sh) (F : Nat → List Dyn.DC) (b : B4) (p : P2) : Bool := an (ptV3 T σ F b p) (pHas (lstOf (ptBoth T σ).n (ptBoth T σ).f) p == pHas (lstOf (ptOne T σ).n (ptOne T σ).f) p)
noncomputable def ptV5 (T σ : Sh) (F : Nat → List Dyn.DC) (b : B4) (p : P2) : Bool := an (ptV4 T σ F b p) (pClass (lstOf ((ptAll T).n + T.n) (ptAn T)) b == pClass (lstOf T.n T.f) b)
noncomputable def ptV6 (T σ : Sh) (F : Nat → List Dyn.DC) (b : B4) (p : P2) : Bool := an (ptV5 T σ F b p) (pHas (lstOf ((ptAll T).n + T.n) (ptAn T)) p == pHas (lstOf T.n T.f) p)
noncomputable def ptO0 (n : Nat) (f : Nat → List Dyn.DC) (s T σ : Sh) (b : B4) (x y : Int) (F : Nat → List Dyn.DC) : Dyn.RO :=
  .side [PdS (obX n f), PdS s, ctrSelf s.l] (.side [lInOk b] (.side [ptS T σ b (lIn b x y) 0 0 F = ptS T σ b (lIn b x y) 0 0 F]
    (.side [PxL T.n T.f, PxHd 1 (ptH σ), PxL T.n T.f, PxHd 2 (ptH2 σ)] (.side [PxL T.n T.f, PxHd 1 ptHa, szA 120 ((ptAll T).n + T.n)]
    (.side [PxL (2 * T.n) F, PxL T.n T.f,
      some (ptV1 T F b) = some true ∧ True → allP [PxL (2 * T.n) F], some (ptV1 T F b) = some true ∧ True → allP [PxL T.n T.f],
      some (ptV2 T F b (lIn b x y)) = some true ∧ True → allP [PxL (ptBoth T σ).n (ptBoth T σ).f], some (ptV2 T F b (lIn b x y)) = some true ∧ True → allP [PxL (ptOne T σ).n (ptOne T σ).f],
      some (ptV3 T σ F b (lIn b x y)) = some true ∧ True → allP [PxL (ptBoth T σ).n (ptBoth T σ).f], some (ptV3 T σ F b (lIn b x y)) = some true ∧ True → allP [PxL (ptOne T σ).n (ptOne T σ).f],
      some (ptV4 T σ F b (lIn b x y)) = some true ∧ True → allP [PxL ((ptAll T).n + T.n) (ptAn T)], some (ptV4 T σ F b (lIn b x y)) = some true ∧ True → allP [PxL T.n T.f],
      some (ptV5 T σ F b (lIn b x y)) = some true ∧ True → allP [PxL ((ptAll T).n + T.n) (ptAn T)], some (ptV5 T σ F b (lIn b x y)) = some true ∧ True → allP [PxL T.n T.f]]
      (.leaf (rB (an (ptV6 T σ F b (lIn b x y)) true))))))))
noncomputable def ptO (n : Nat) (f : Nat → List Dyn.DC) (s : Sh) (b : B4) (x y : Int) (F : Nat → List Dyn.DC) : Dyn.RO :=
  .side [PdW (obX n f), some (!(small21 (ofSh (obX n f)))) = some false ∧ True → allP [PdW s, ctrSelf s.l]] (.ite (bif !(small21 (ofSh (obX n f))) then true else !(smallE s 0)) (.leaf (rB true))
    (ptO0 n f s (toSh (tame21 (ofSh (obX n f)) true)) (tameE s true 2) (lSmall b) x y F))
theorem pt_O (n : Nat) (f : Nat → List Dyn.DC) (s : Sh) (b : B4) (x y : Int) (F : Nat → List Dyn.DC) : (Dyn.rfun Try.prog tabPt (ptLp (toSh (tame21 (ofSh (obX n f)) true)) (tameE s true 2) (lSmall b) (lIn (lSmall b) x y) F) 3 Try.f10 [.one (.row n f), dvS s, dvX b, dvI x, dvI y]).ro Try.prog Try.f10.results = ptO n f s b x y F := by kernel_rfl
end Go.Proofs.Ytfooaikpcbnchaa

/-! ## Tuf -/
namespace Go.Proofs.Ytfooaikpcbnchaa
open Go Go.RowKit Sym
set_option maxRecDepth 100000

end Go.Proofs.Ytfooaikpcbnchaa

/-! ## Fir -/
namespace Go.Proofs.Ytfooaikpcbnchaa
open Go Go.RowKit Sym
set_option maxRecDepth 100000

/-- a box mirrored, turned by k quarters, moved -/
def rtB (m : Bool) (k : Int) (u : P2) (b : B4) : B4 :=
  let xl := bif m then -b.x1 else b.x0
  let xh := bif m then -b.x0 else b.x1
  ⟨(bif k == 1 then -b.y1 else bif k == 2 then -xh else bif k == 3 then b.y0 else xl) + u.x, (bif k == 1 then xl else bif k == 2 then -b.y1 else bif k == 3 then -xh else b.y0) + u.y,
   (bif k == 1 then -b.y0 else bif k == 2 then -xl else bif k == 3 then b.y1 else xh) + u.x, (bif k == 1 then xh else bif k == 2 then -b.y0 else bif k == 3 then -xl else b.y1) + u.y⟩
end Go.Proofs.Ytfooaikpcbnchaa

/-! ## Bnb -/
namespace Go.Proofs.Ytfooaikpcbnchaa
open Go Go.RowKit Sym
set_option maxRecDepth 100000

/-! ### the root, rounded up -/
/-! ### boxes around points -/
/-- no point in common -/
def Off (U b : B4) : Prop := U.x1 < b.x0 ∨ b.x1 < U.x0 ∨ U.y1 < b.y0 ∨ b.y1 < U.y0
/-! ### discs, strokes, bars -/
end Go.Proofs.Ytfooaikpcbnchaa

/-! ## Rio -/
namespace Go.Proofs.Ytfooaikpcbnchaa
open Go Go.RowKit Sym
set_option maxRecDepth 100000

end Go.Proofs.Ytfooaikpcbnchaa

/-! ## Bnc -/
namespace Go.Proofs.Ytfooaikpcbnchaa
open Go Go.RowKit Sym
set_option maxRecDepth 100000

/-! ### rings -/
/-! ### contours -/
/-! ### bounds that are put together -/
structure In4 (a U : B4) : Prop where
  x0 : U.x0 ≤ a.x0
  y0 : U.y0 ≤ a.y0
  x1 : a.x1 ≤ U.x1
  y1 : a.y1 ≤ U.y1
theorem In4.has {a U : B4} {p : P2} (h : In4 a U) (k : hasI a p) : hasI U p := by
  obtain ⟨h1, h2, h3, h4⟩ := h
  unfold hasI at *
  omega
theorem In4.trans {a b c : B4} (h : In4 a b) (k : In4 b c) : In4 a c := ⟨Int.le_trans k.x0 h.x0, Int.le_trans k.y0 h.y0, Int.le_trans h.x1 k.x1, Int.le_trans h.y1 k.y1⟩
end Go.Proofs.Ytfooaikpcbnchaa

/-! ## Bnd -/
namespace Go.Proofs.Ytfooaikpcbnchaa
open Go Go.RowKit Sym
set_option maxRecDepth 100000

/-! ### the points of contours, one box after the other -/
end Go.Proofs.Ytfooaikpcbnchaa

/-! ## Pim -/
namespace Go.Proofs.Ytfooaikpcbnchaa
open Go Go.RowKit Sym
set_option maxRecDepth 100000

/-- q lies in b -/
structure Sb (q b : B4) : Prop where
  fa : b.x0 ≤ q.x0
  x : q.x0 ≤ q.x1
  fb : q.x1 ≤ b.x1
  fc : b.y0 ≤ q.y0
  y : q.y0 ≤ q.y1
  fd : q.y1 ≤ b.y1
theorem Sb.has {q b : B4} (h : Sb q b) {p : P2} (k : hasI q p) : hasI b p := by
  have := h.fa; have := h.fb; have := h.fc; have := h.fd
  obtain ⟨k1, k2, k3, k4⟩ := k
  exact ⟨by omega, by omega, by omega, by omega⟩
theorem Sb.cor {q b : B4} (h : Sb q b) {p : P2} (k : isC q p) : hasI b p := h.has (isC_has h.x h.y k)
theorem Sb.near {q b : B4} (h : Sb q b) (p : P2) : nearI b p ≤ nearI q p := by
  have := h.fa; have := h.fb; have := h.fc; have := h.fd; have := h.x; have := h.y
  have gx : 0 ≤ gapI p.x b.x0 b.x1 ∧ gapI p.x b.x0 b.x1 ≤ gapI p.x q.x0 q.x1 := by unfold gapI; repeat' split <;> omega
  have gy : 0 ≤ gapI p.y b.y0 b.y1 ∧ gapI p.y b.y0 b.y1 ≤ gapI p.y q.y0 q.y1 := by unfold gapI; repeat' split <;> omega
  have := Int.mul_le_mul gx.2 gx.2 gx.1 (by omega)
  have := Int.mul_le_mul gy.2 gy.2 gy.1 (by omega)
  unfold nearI
  omega
theorem Sb.most {q b : B4} (h : Sb q b) (p : P2) : mostI q p ≤ mostI b p := by
  have := h.fa; have := h.fb; have := h.fc; have := h.fd; have := h.x; have := h.y
  have gx : 0 ≤ reachI p.x q.x0 q.x1 ∧ reachI p.x q.x0 q.x1 ≤ reachI p.x b.x0 b.x1 := by unfold reachI; omega
  have gy : 0 ≤ reachI p.y q.y0 q.y1 ∧ reachI p.y q.y0 q.y1 ≤ reachI p.y b.y0 b.y1 := by unfold reachI; omega
  have := Int.mul_le_mul gx.2 gx.2 gx.1 (by omega)
  have := Int.mul_le_mul gy.2 gy.2 gy.1 (by omega)
  unfold mostI
  omega
theorem Sb.pos {q b : B4} (h : Sb q b) {a c : P2} (k : all4 (fun z => decide (crossI a c z > 0)) b = true) : all4 (fun z => decide (crossI a c z > 0)) q = true := by
  rw [all4_iff] at k ⊢
  intro z hz
  obtain ⟨w, hw, hl⟩ := cross_le a c (h.cor hz)
  have := k w hw
  rw [decide_eq_true_eq] at this ⊢; omega
theorem Sb.neg {q b : B4} (h : Sb q b) {a c : P2} (k : all4 (fun z => decide (crossI a c z < 0)) b = true) : all4 (fun z => decide (crossI a c z < 0)) q = true := by
  rw [all4_iff] at k ⊢
  intro z hz
  obtain ⟨w, hw, hl⟩ := cross_ge a c (h.cor hz)
  have := k w hw
  rw [decide_eq_true_eq] at this ⊢; omega
theorem Sb.meets {q b : B4} (h : Sb q b) {a c : P2} (k : meetsI q a c = true) : meetsI b a c = true := by
  have := h.fa; have := h.fb; have := h.fc; have := h.fd; have := h.x; have := h.y
  unfold meetsI at k ⊢
  simp only [Bool.and_eq_true, Bool.not_eq_true'] at k ⊢
  obtain ⟨k1, k2, k3⟩ := k
  refine ⟨?_, ?_, ?_⟩
  · unfold sepI at k1 ⊢
    simp only [Bool.or_eq_false_iff, decide_eq_false_iff_not] at k1 ⊢
    omega
  · cases e : all4 (fun z => decide (crossI a c z > 0)) b
    · rfl
    · rw [h.pos e] at k2; cases k2
  · cases e : all4 (fun z => decide (crossI a c z < 0)) b
    · rfl
    · rw [h.neg e] at k3; cases k3
/-- a class, and that of a smaller box -/
structure Ref (k j : Int) : Prop where
  k0 : 0 ≤ k
  k2 : k ≤ 2
  j0 : 0 ≤ j
  j2 : j ≤ 2
  e : k ≠ 1 → j = k
theorem Ref.of {k j : Int} (hk : k = 0 ∨ k = 1 ∨ k = 2) (hj : j = 0 ∨ j = 1 ∨ j = 2) (h2 : k = 2 → j = 2) (h0 : k = 0 → j = 0) : Ref k j := ⟨by omega, by omega, by omega, by omega, fun h => by omega⟩
end Go.Proofs.Ytfooaikpcbnchaa

/-! ## Rpo -/
namespace Go.Proofs.Ytfooaikpcbnchaa
open Go Go.RowKit Sym
set_option maxRecDepth 100000

theorem Off.sub {a U b : B4} (h : In4 a U) (k : Off U b) : Off a b := by
  obtain ⟨h1, h2, h3, h4⟩ := h
  unfold Off at *
  omega
/-- a class -/
def R3 (x : Int) : Prop := 0 ≤ x ∧ x ≤ 2
theorem r0 : R3 0 := by unfold R3; omega
theorem r1 : R3 1 := by unfold R3; omega
theorem r2 : R3 2 := by unfold R3; omega
theorem b3 {c : Bool} {x y : Int} (hx : R3 x) (hy : R3 y) : R3 (bif c then x else y) := by
  cases c
  · exact hy
  · exact hx
theorem R3.cases {x : Int} (h : R3 x) : x = 0 ∨ x = 1 ∨ x = 2 := by unfold R3 at h; omega
theorem fold3 {was cls : Int} {add : Bool} (h : R3 was) : R3 (foldF was cls add) := b3 r1 (b3 h (b3 r2 (b3 r0 (b3 r2 (b3 r0 r1)))))
theorem folds3 (c : Nat → Int) (add : Nat → Bool) : ∀ n, R3 (foldN (fun i acc => foldF acc (c i) (add i)) 0 n)
  | 0 => r0
  | n + 1 => fold3 (folds3 c add n)
theorem disc3 (b : B4) (c : P2) (r : Int) : R3 (discClass b c r) := b3 r0 (b3 r0 (b3 r2 r1))
theorem line3 (b : B4) (a c : P2) (r : Int) : R3 (lineClass b a c r) := b3 r0 (b3 r2 (b3 r1 r0))
theorem bar3 (b : B4) (a c : P2) (r : Int) : R3 (barClass b a c r) := b3 r0 (b3 r2 (b3 r2 (b3 r0 r1)))
theorem ring3 (b : B4) (c a e : P2) (r : Int) : R3 (ringClass b c a e r) := b3 r0 (b3 r2 (b3 r2 (b3 r2 (b3 r1 (b3 r0 r1)))))
theorem poly3 (b : B4) (l : Ctr) : R3 (polyClassF b l) := b3 r1 (b3 r2 r0)
theorem cls3 (b : B4) (s : Shp) : R3 (classF s b) := by
  cases s with
  | nil => exact r0
  | mk k a b' c r l n add sub => exact b3 (disc3 _ _ _) (b3 (poly3 _ _) (b3 (line3 _ _ _ _) (b3 (bar3 _ _ _ _) (b3 (ring3 _ _ _ _ _) (folds3 _ _ _)))))
theorem fig3 (s : Shp) (b : B4) : R3 (figClassC s b) := b3 r0 (cls3 b s)
theorem pile3 (s : Shp) (b : B4) : R3 (pClassC s b) := folds3 _ _ _
/-- objects such as may be -/
structure GoodO (s : Shp) : Prop where
  ref : ∀ i, i < nuO s → ∀ b q, Sb q b → Fits b → Fits q → Ref (figClassC (suO s i) b) (figClassC (suO s i) q)
  rch : ∀ i, i < nuO s → (figBndC (suO s i)).2 = false → ∀ b, Fits b → figClassC (suO s i) b = 0
  near : ∀ i, i < nuO s → hbF (suO s i) = false → ∀ b, Fits b → apart (figBndC (suO s i)).1 b = true → ∀ q, Sb q b → Fits q → figClassC (suO s i) q = 0
theorem GoodO.fil {s : Shp} (h : GoodO s) (keep : Nat → Bool) : GoodO (filL keep s) :=
  ⟨fun _ hi => h.ref _ (kIx_lt keep hi).1, fun _ hi => h.rch _ (kIx_lt keep hi).1, fun _ hi => h.near _ (kIx_lt keep hi).1⟩
theorem Off.box {U b q : B4} (h : Sb q b) (k : Off U b) : Off U q := by
  obtain ⟨h1, h2, h3, h4, h5, h6⟩ := h
  unfold Off at *
  omega
end Go.Proofs.Ytfooaikpcbnchaa

/-! ## Cqj -/
namespace Go.Proofs.Ytfooaikpcbnchaa
open Go Go.RowKit Sym
set_option maxRecDepth 100000

/-! ### a part shows its shape -/
theorem cP_inj {p q : P2} (h : cP p = cP q) : p = q := by
  unfold cP at h
  simp only [List.cons.injEq, Dyn.DC.p.injEq, and_true] at h
  have h1 : p.x = q.x := by have := h.1; cases p; cases q; injection this
  have h2 : p.y = q.y := by have := h.2; cases p; cases q; injection this
  exact P2.ext' h1 h2
theorem cCtr_injQ {l l' : Ctr} (h : cCtr l = cCtr l') : l = l' := by
  obtain ⟨n, m, p⟩ := l
  obtain ⟨n', m', p'⟩ := l'
  unfold cCtr at h
  injection h with h1 h2
  dsimp only at h1
  subst h1
  have e : ∀ i, m i = m' i ∧ ∀ k, p i k = p' i k := fun i => by
    have := congrFun h2 i
    dsimp only at this
    injection this with q _
    unfold cRow at q
    injection q with q1 q2
    exact ⟨q1, fun k => cP_inj (congrFun q2 k)⟩
  have e1 : m = m' := funext fun i => (e i).1
  have e2 : p = p' := funext fun i => funext fun k => (e i).2 k
  subst e1; subst e2; rfl
theorem vi_inj {x y : Int} (h : Dyn.DC.p (vi x) = .p (vi y)) : x = y := by
  injection h with h; injection h
theorem cS_injQ {s s' : Sh} (h : cS s = cS s') : s = s' := by
  obtain ⟨k, ⟨ax, ay⟩, ⟨bx', by'⟩, ⟨cx, cy⟩, r, l, n, f⟩ := s
  obtain ⟨k', ⟨ax', ay'⟩, ⟨bx2, by2⟩, ⟨cx', cy'⟩, r', l', n', f'⟩ := s'
  unfold cS at h
  simp only [List.cons.injEq, and_true] at h
  obtain ⟨h0, h1, h2, h3, h4, h5, h6, h7, h8, h9⟩ := h
  obtain rfl := vi_inj h0
  obtain rfl := vi_inj h1
  obtain rfl := vi_inj h2
  obtain rfl := vi_inj h3
  obtain rfl := vi_inj h4
  obtain rfl := vi_inj h5
  obtain rfl := vi_inj h6
  obtain rfl := vi_inj h7
  obtain rfl := cCtr_injQ h8
  injection h9 with q1 q2
  subst q1; subst q2; rfl
theorem toSh_injQ {s t : Shp} (h : toSh s = toSh t) : s = t := by rw [← ofSh_toSh s, h, ofSh_toSh]
theorem partC_inj {a a' : Bool} {s t : Shp} (h : partC a (toSh s) = partC a' (toSh t)) : a = a' ∧ s = t := by
  unfold partC at h
  injection h with h1 h2
  refine ⟨?_, toSh_injQ (cS_injQ h2)⟩
  unfold cB at h1
  injection h1 with h1; injection h1
theorem foldN_cg {α : Type} {f g : Nat → α → α} {a : α} : ∀ n, (∀ i, i < n → ∀ x, f i x = g i x) → foldN f a n = foldN g a n
  | 0, _ => rfl
  | n + 1, h => by
    show f n (foldN f a n) = g n (foldN g a n)
    rw [foldN_cg n fun i hi => h i (by omega), h n (by omega)]
/-- what a law asks of a list depends on what it shows alone -/
theorem lst_eq {n : Nat} {f : Nat → List Dyn.DC} {add : Nat → Bool} {sub : Nat → Shp} (hn : n ≤ 100000) (hs : ∀ i, i < n → ShB (sub i) ∧ cntS (sub i) ≤ 100000000) (hf : ∀ i, i < n → f i = partC (add i) (toSh (sub i))) :
    PxL n f ∧ (∀ p, pHas (lstOf n f) p = pHas (lForm n add sub) p) ∧ (∀ b, pClassC (lstOf n f) b = pClassC (lForm n add sub) b) := by
  have h : PxL n f := ⟨add, sub, hn, hs, hf⟩
  obtain ⟨add', sub', e, _, _, hf'⟩ := lst_spec h
  have q : ∀ i, i < n → add' i = add i ∧ sub' i = sub i := fun i hi => partC_inj ((hf' i hi).symm.trans (hf i hi))
  refine ⟨h, fun p => ?_, fun b => ?_⟩
  · rw [e]
    exact foldN_cg n fun i hi x => by unfold hasN; dsimp only; show (bif figHasS (sub' i) p then add' i else x) = (bif figHasS (sub i) p then add i else x); rw [(q i hi).1, (q i hi).2]
  · rw [e]
    exact foldN_cg n fun i hi x => by show foldF x (figClassC (sub' i) b) (add' i) = foldF x (figClassC (sub i) b) (add i); rw [(q i hi).1, (q i hi).2]
/-! ### folds -/
def R1 (x y : Int) : Prop := x = y ∨ x = 1
theorem R1.step {x y c : Int} (add : Bool) (hx : R3 x) (hy : R3 y) (hc : R3 c) (h : R1 x y) : R1 (foldF x c add) (foldF y c add) := by
  rcases h with rfl | rfl
  · exact .inl rfl
  · unfold R1
    rcases hy.cases with rfl | rfl | rfl <;> rcases hc.cases with rfl | rfl | rfl <;> cases add <;> decide
theorem R1.drop {x y c : Int} (add : Bool) (hx : R3 x) (hy : R3 y) (hc : R3 c) (h2 : c ≠ 2) (h : R1 x y) : R1 (foldF x c add) y := by
  unfold R1 at *
  rcases h with rfl | rfl
  · rcases hx.cases with rfl | rfl | rfl <;> rcases hc.cases with rfl | rfl | rfl <;> cases add <;> first | exact absurd rfl h2 | decide
  · rcases hc.cases with rfl | rfl | rfl <;> cases add <;> first | exact absurd rfl h2 | exact .inr rfl
end Go.Proofs.Ytfooaikpcbnchaa

/-! ## Rim -/
namespace Go.Proofs.Ytfooaikpcbnchaa
open Go Go.RowKit Sym
set_option maxRecDepth 100000

structure Iso (T : P2 → P2) : Prop where
  d : ∀ p q, distI (T p) (T q) = distI p q
  s : ∀ p q, same (T p) (T q) ↔ same p q
structure IsoB (T : P2 → P2) (b b' : B4) : Prop where
  n : ∀ q, nearI b' (T q) = nearI b q
  m : ∀ q, mostI b' (T q) = mostI b q
  f : ∀ f : P2 → Bool, all4 f b' = all4 (fun q => f (T q)) b
/-! ### wider rings -/
end Go.Proofs.Ytfooaikpcbnchaa

/-! ## Pov -/
namespace Go.Proofs.Ytfooaikpcbnchaa
open Go Go.RowKit Sym

/-! ### sums in any order -/
structure ACM (op : Bool → Bool → Bool) : Prop where
  a : ∀ x y z, op (op x y) z = op x (op y z)
  c : ∀ x y, op x y = op y x
  z : ∀ x, op false x = x
def mapC (T : P2 → P2) (l : Ctr) : Ctr := ⟨l.n, l.m, fun i k => T (l.p i k)⟩
/-! ### moved, turned, mirrored: no wraps -/
/-! ### the ray to another side -/
/-! ### Has and Class, without wraps -/
def hasC (p : P2) (l : Ctr) : Bool := touchI (spotB p) l || oddI p l
def clsC (b : B4) (l : Ctr) : Int := if touchI b l = true then 1 else if oddI ⟨b.x0, b.y0⟩ l = true then 2 else 0
end Go.Proofs.Ytfooaikpcbnchaa

/-! ## Tum -/
namespace Go.Proofs.Ytfooaikpcbnchaa
open Go Go.RowKit Sym
set_option maxRecDepth 100000

/-- a move of the plane that keeps all that shapes are made of; m: it mirrors -/
structure Mv (T : P2 → P2) (G : B4 → B4) (m : Bool) : Prop where
  i : Iso T
  dt : ∀ o a b, dotI (T o) (T a) (T b) = dotI o a b
  cr : ∀ o a b, crossI (T o) (T a) (T b) = bif m then crossI o b a else crossI o a b
  me : ∀ b a e, meetsI (G b) (T a) (T e) = meetsI b a e
  ord : ∀ b : B4, b.x0 ≤ b.x1 → b.y0 ≤ b.y1 → (G b).x0 ≤ (G b).x1 ∧ (G b).y0 ≤ (G b).y1
  bx : ∀ b : B4, b.x0 ≤ b.x1 → b.y0 ≤ b.y1 → IsoB T b (G b)
  hc : ∀ p l, hasC (T p) (mapC T l) = hasC p l
  cc : ∀ (b : B4) l, b.x0 ≤ b.x1 → b.y0 ≤ b.y1 → clsC (G b) (mapC T l) = clsC b l
/-! ### leaves -/
end Go.Proofs.Ytfooaikpcbnchaa

/-! ## Tun -/
namespace Go.Proofs.Ytfooaikpcbnchaa
open Go Go.RowKit Sym
set_option maxRecDepth 100000

def tB (t : Tn) : B4 → B4 := rtB (plX t) (plQ t) t.u
/-- a box near the middle -/
structure B40 (b : B4) : Prop where
  x0 : -40 ≤ b.x0
  x : b.x0 ≤ b.x1
  x1 : b.x1 ≤ 40
  y0 : -40 ≤ b.y0
  y : b.y0 ≤ b.y1
  y1 : b.y1 ≤ 40
theorem B40.R {b : B4} (h : B40 b) : BR b := by
  obtain ⟨h1, h2, h3, h4, h5, h6⟩ := h
  exact ⟨⟨by omega, by omega⟩, ⟨by omega, by omega⟩, ⟨by omega, by omega⟩, ⟨by omega, by omega⟩⟩
theorem cnt_fine {P : P2 → Prop} : ∀ (s : Shp) (d : Int), Fine P s d → 0 ≤ d → 1 + (cntS s : Int) ≤ Nd d := by
  intro s
  induction s with
  | nil => intro d h; exact h.elim
  | mk k a b c r l n add sub ih =>
    intro d h h0
    have nd := Nd_one d
    have one : n = 0 → 1 + (cntS (.mk k a b c r l n add sub) : Int) ≤ Nd d := fun e => by subst e; show 1 + ((0 : Nat) : Int) ≤ Nd d; omega
    rcases h with ⟨_, _, _, _, e, _⟩ | ⟨_, _, _, e, _⟩ | ⟨_, _, _, e, _⟩ | ⟨_, _, e, _⟩ | ⟨_, _, _, _, _, e, _⟩ | ⟨rfl, rfl, rfl, rfl, rfl, rfl, h5, hm, hs⟩
    · exact one e
    · exact one e
    · exact one e
    · exact one e
    · exact one e
    · have st := Nd_step h0 h5 (show 0 ≤ (n : Int) by omega) (by omega)
      have nn := Nd_one (d + 1)
      have key : ∀ m : Nat, m ≤ n → (sumC (fun i => 1 + cntS (sub i)) m : Int) ≤ (m : Int) * Nd (d + 1) := by
        intro m
        induction m with
        | zero => intro _; show ((0 : Nat) : Int) ≤ ((0 : Nat) : Int) * Nd (d + 1); omega
        | succ m ihm =>
          intro hm
          have a := ihm (by omega)
          have q := ih m (d + 1) (hs m (by omega)) (by omega)
          have a2 : ((m + 1 : Nat) : Int) * Nd (d + 1) = (m : Int) * Nd (d + 1) + Nd (d + 1) := by rw [show ((m + 1 : Nat) : Int) = (m : Int) + 1 by omega, Int.add_mul, Int.one_mul]
          show ((sumC (fun i => 1 + cntS (sub i)) m + (1 + cntS (sub m)) : Nat) : Int) ≤ _
          omega
      have := key n (Nat.le_refl n)
      show 1 + (sumC (fun i => 1 + cntS (sub i)) n : Int) ≤ Nd d
      omega
end Go.Proofs.Ytfooaikpcbnchaa

/-! ## Cql -/
namespace Go.Proofs.Ytfooaikpcbnchaa
open Go Go.RowKit Sym
set_option maxRecDepth 100000

/-- an object such as may be -/
structure Tam2 (s : Shp) : Prop where
  f : Fine (PB (tmX true)) s 2
  ok : okE (toSh s) = true
theorem tam2_of (s : Shp) (h : ShB s) : Tam2 (tameS s true 2) := ⟨tame_fine true s 2 h (by decide) (by decide), tame2_ok true s h⟩
theorem Tam2.B {s : Shp} (h : Tam2 s) : ShB s := fine_B _ 2 h.f (by decide)
theorem Tam2.c {s : Shp} (h : Tam2 s) : cntS s ≤ 100000000 := by have := cnt_fine s 2 h.f (by decide); have := Nd_one 2; omega
theorem Tam2.has {s : Shp} (h : Tam2 s) (p : P2) : figHasS s p = hasF s p := by unfold figHasS; rw [h.ok]; rfl
theorem Tam2.cls {s : Shp} (h : Tam2 s) (b : B4) : figClassC s b = classF s b := by
  have e := h.ok
  rw [okE_S] at e
  unfold figClassC; rw [e]; rfl
def morL (N : Nat) (add : Nat → Bool) (sub : Nat → Shp) (d : Bool) (σ : Shp) : Shp := lForm (N + 1) (fun i => bif Nat.blt i N then add i else d) (fun i => bif Nat.blt i N then sub i else σ)
theorem blt_t {i N : Nat} (h : i < N) : Nat.blt i N = true := Nat.ble_eq_true_of_le h
theorem blt_f (N : Nat) : Nat.blt N N = false := by rw [Bool.eq_false_iff]; exact fun e => absurd (Nat.le_of_ble_eq_true e) (by omega)
theorem mor_has (N : Nat) (add : Nat → Bool) (sub : Nat → Shp) (d : Bool) (σ : Shp) (p : P2) : pHas (morL N add sub d σ) p = bif figHasS σ p then d else pHas (lForm N add sub) p := by
  show (bif figHasS (bif Nat.blt N N then sub N else σ) p then (bif Nat.blt N N then add N else d) else foldN (hasN (fun i => figHasS (bif Nat.blt i N then sub i else σ) p) (fun i => bif Nat.blt i N then add i else d)) false N) = _
  rw [blt_f]
  show (bif figHasS σ p then d else foldN (hasN (fun i => figHasS (bif Nat.blt i N then sub i else σ) p) (fun i => bif Nat.blt i N then add i else d)) false N) = _
  rw [show foldN (hasN (fun i => figHasS (bif Nat.blt i N then sub i else σ) p) (fun i => bif Nat.blt i N then add i else d)) false N = pHas (lForm N add sub) p from foldN_cg N fun i hi x => by
    unfold hasN; dsimp only; rw [blt_t hi]; rfl]
theorem mor_cls (N : Nat) (add : Nat → Bool) (sub : Nat → Shp) (d : Bool) (σ : Shp) (b : B4) : pClassC (morL N add sub d σ) b = foldF (pClassC (lForm N add sub) b) (figClassC σ b) d := by
  show foldF (foldN (fun i acc => foldF acc (figClassC (bif Nat.blt i N then sub i else σ) b) (bif Nat.blt i N then add i else d)) 0 N) (figClassC (bif Nat.blt N N then sub N else σ) b) (bif Nat.blt N N then add N else d) = _
  rw [blt_f]
  show foldF (foldN (fun i acc => foldF acc (figClassC (bif Nat.blt i N then sub i else σ) b) (bif Nat.blt i N then add i else d)) 0 N) (figClassC σ b) d = _
  rw [show foldN (fun i acc => foldF acc (figClassC (bif Nat.blt i N then sub i else σ) b) (bif Nat.blt i N then add i else d)) 0 N = pClassC (lForm N add sub) b from foldN_cg N fun i hi x => by
    rw [blt_t hi]; rfl]
end Go.Proofs.Ytfooaikpcbnchaa

/-! ## Cqn -/
namespace Go.Proofs.Ytfooaikpcbnchaa
open Go Go.RowKit Sym
set_option maxRecDepth 100000

theorem foldN_add {α : Type} (g : Nat → α → α) (a : α) (m : Nat) : ∀ n, foldN g a (m + n) = foldN (fun i => g (m + i)) (foldN g a m) n
  | 0 => rfl
  | n + 1 => by show g (m + n) (foldN g a (m + n)) = g (m + n) (foldN (fun i => g (m + i)) (foldN g a m) n); rw [foldN_add g a m n]
theorem foldF_twice {x c : Int} (hx : R3 x) (hc : R3 c) (add : Bool) : foldF (foldF x c add) c add = foldF x c add := by
  rcases hx.cases with rfl | rfl | rfl <;> rcases hc.cases with rfl | rfl | rfl <;> cases add <;> decide
theorem has_twice (h a x : Bool) : (bif h then a else bif h then a else x) = bif h then a else x := by cases h <;> rfl
/-- each object twice -/
def twoL (N : Nat) (add : Nat → Bool) (sub : Nat → Shp) : Shp := lForm (2 * N) (fun i => add (i / 2)) (fun i => sub (i / 2))
theorem two_has (add : Nat → Bool) (sub : Nat → Shp) (p : P2) : ∀ N, pHas (twoL N add sub) p = pHas (lForm N add sub) p
  | 0 => rfl
  | N + 1 => by
    have ih := two_has add sub p N
    have e : pHas (twoL (N + 1) add sub) p = hasN (fun i => figHasS (sub (i / 2)) p) (fun i => add (i / 2)) (2 * N + 1) (hasN (fun i => figHasS (sub (i / 2)) p) (fun i => add (i / 2)) (2 * N) (pHas (twoL N add sub) p)) := rfl
    rw [e, ih]
    unfold hasN
    dsimp only
    rw [show (2 * N + 1) / 2 = N by omega, show 2 * N / 2 = N by omega, has_twice]
    rfl
theorem two_cls (add : Nat → Bool) (sub : Nat → Shp) (b : B4) : ∀ N, pClassC (twoL N add sub) b = pClassC (lForm N add sub) b
  | 0 => rfl
  | N + 1 => by
    have ih := two_cls add sub b N
    have e : pClassC (twoL (N + 1) add sub) b = foldF (foldF (pClassC (twoL N add sub) b) (figClassC (sub (2 * N / 2)) b) (add (2 * N / 2))) (figClassC (sub ((2 * N + 1) / 2)) b) (add ((2 * N + 1) / 2)) := rfl
    rw [e, ih, show (2 * N + 1) / 2 = N by omega, show 2 * N / 2 = N by omega, foldF_twice (pile3 _ b) (fig3 _ b)]
    rfl
/-- a clear object over all of the box, and the list anew -/
def anewL (N : Nat) (add : Nat → Bool) (sub : Nat → Shp) (σ : Shp) : Shp := lForm (N + 1 + N) (fun i => bif Nat.blt i N then add i else bif Nat.blt i (N + 1) then false else add (i - (N + 1))) (fun i => bif Nat.blt i N then sub i else bif Nat.blt i (N + 1) then σ else sub (i - (N + 1)))
theorem blt_no {i N : Nat} (h : N ≤ i) : Nat.blt i N = false := by rw [Bool.eq_false_iff]; exact fun e => absurd (Nat.le_of_ble_eq_true e) (by omega)
theorem anew_has (N : Nat) (add : Nat → Bool) (sub : Nat → Shp) {σ : Shp} {p : P2} (h : figHasS σ p = true) : pHas (anewL N add sub σ) p = pHas (lForm N add sub) p := by
  show foldN (hasN (fun i => figHasS (bif Nat.blt i N then sub i else bif Nat.blt i (N + 1) then σ else sub (i - (N + 1))) p) (fun i => bif Nat.blt i N then add i else bif Nat.blt i (N + 1) then false else add (i - (N + 1)))) false (N + 1 + N) = _
  rw [foldN_add]
  have e : ∀ x, hasN (fun i => figHasS (bif Nat.blt i N then sub i else bif Nat.blt i (N + 1) then σ else sub (i - (N + 1))) p) (fun i => bif Nat.blt i N then add i else bif Nat.blt i (N + 1) then false else add (i - (N + 1))) N x = false := fun x => by
    unfold hasN; dsimp only
    rw [blt_no (Nat.le_refl N), blt_t (Nat.lt_succ_self N)]
    show (bif figHasS σ p then false else x) = false
    rw [h]; rfl
  rw [show foldN (hasN (fun i => figHasS (bif Nat.blt i N then sub i else bif Nat.blt i (N + 1) then σ else sub (i - (N + 1))) p) (fun i => bif Nat.blt i N then add i else bif Nat.blt i (N + 1) then false else add (i - (N + 1)))) false (N + 1) = false from e _]
  exact foldN_cg N fun i hi x => by
    unfold hasN; dsimp only
    rw [blt_no (show N ≤ N + 1 + i by omega), blt_no (show N + 1 ≤ N + 1 + i by omega), show N + 1 + i - (N + 1) = i by omega]; rfl
theorem anew_cls (N : Nat) (add : Nat → Bool) (sub : Nat → Shp) {σ : Shp} {b : B4} (h : figClassC σ b = 2) : pClassC (anewL N add sub σ) b = pClassC (lForm N add sub) b := by
  show foldN (fun i acc => foldF acc (figClassC (bif Nat.blt i N then sub i else bif Nat.blt i (N + 1) then σ else sub (i - (N + 1))) b) (bif Nat.blt i N then add i else bif Nat.blt i (N + 1) then false else add (i - (N + 1)))) 0 (N + 1 + N) = _
  rw [foldN_add]
  have r : ∀ x, R3 x → foldF x 2 false = 0 := fun x hx => by rcases hx.cases with rfl | rfl | rfl <;> rfl
  rw [show foldN (fun i acc => foldF acc (figClassC (bif Nat.blt i N then sub i else bif Nat.blt i (N + 1) then σ else sub (i - (N + 1))) b) (bif Nat.blt i N then add i else bif Nat.blt i (N + 1) then false else add (i - (N + 1)))) 0 (N + 1) = 0 by
    show foldF _ (figClassC (bif Nat.blt N N then sub N else bif Nat.blt N (N + 1) then σ else sub (N - (N + 1))) b) (bif Nat.blt N N then add N else bif Nat.blt N (N + 1) then false else add (N - (N + 1))) = 0
    rw [blt_no (Nat.le_refl N), blt_t (Nat.lt_succ_self N)]
    show foldF _ (figClassC σ b) false = 0
    rw [h]; exact r _ (folds3 (fun i => figClassC (bif Nat.blt i N then sub i else bif Nat.blt i (N + 1) then σ else sub (i - (N + 1))) b) (fun i => bif Nat.blt i N then add i else bif Nat.blt i (N + 1) then false else add (i - (N + 1))) N)]
  exact foldN_cg N fun i hi x => by
    rw [blt_no (show N ≤ N + 1 + i by omega), blt_no (show N + 1 ≤ N + 1 + i by omega), show N + 1 + i - (N + 1) = i by omega]; rfl
theorem PR_ze : PR ze := ⟨⟨by show (-1073741823 : Int) ≤ 0; omega, by show (0 : Int) ≤ 1073741823; omega⟩, ⟨by show (-1073741823 : Int) ≤ 0; omega, by show (0 : Int) ≤ 1073741823; omega⟩⟩
/-- the disc of 1000 covers all of a small box -/
theorem all_has {b : B4} (h : -19 ≤ b.x0 ∧ b.x0 ≤ b.x1 ∧ b.x1 ≤ 26 ∧ -19 ≤ b.y0 ∧ b.y0 ≤ b.y1 ∧ b.y1 ≤ 26) (x y : Int) : figHasS (discS 1000) (lIn b x y) = true := by
  have R := lSmall_R' h
  have k := (lIn_has x y R h.2.1 h.2.2.2.2.1).1
  obtain ⟨h1, h2, h3, h4⟩ := k
  rw [figHasD (by decide)]
  show discHas (lIn b x y) ze 1000 = true
  generalize lIn b x y = p at *
  rw [discHas_eq ⟨⟨by omega, by omega⟩, ⟨by omega, by omega⟩⟩ PR_ze (by decide) (by decide), decide_eq_true_eq]
  have sx := sq_bd (A := 26) (x := p.x) (by omega) (by omega)
  have sy := sq_bd (A := 26) (x := p.y) (by omega) (by omega)
  unfold distI ze; dsimp only
  rw [Int.sub_zero, Int.sub_zero]; omega
theorem all_cls {b : B4} (h : -19 ≤ b.x0 ∧ b.x0 ≤ b.x1 ∧ b.x1 ≤ 26 ∧ -19 ≤ b.y0 ∧ b.y0 ≤ b.y1 ∧ b.y1 ≤ 26) : figClassC (discS 1000) b = 2 := by
  have R := lSmall_R' h
  rw [← figClassS_C, figClassD (by decide)]
  show discClass b ze 1000 = 2
  have hr : ∀ lo hi : Int, -19 ≤ lo → lo ≤ hi → hi ≤ 26 → 0 ≤ reachI 0 lo hi ∧ reachI 0 lo hi ≤ 26 := fun lo hi a c d => by unfold reachI; omega
  have rx := hr b.x0 b.x1 h.1 h.2.1 h.2.2.1
  have ry := hr b.y0 b.y1 h.2.2.2.1 h.2.2.2.2.1 h.2.2.2.2.2
  have sx := sq_bd (A := 26) (x := reachI 0 b.x0 b.x1) (by omega) (by omega)
  have sy := sq_bd (A := 26) (x := reachI 0 b.y0 b.y1) (by omega) (by omega)
  have m : mostI b ze ≤ 1000 * 1000 := by unfold mostI ze; dsimp only; omega
  have nm := near_most (p := ze) h.2.1 h.2.2.2.2.1
  rw [discClass_eq R PR_ze h.2.1 h.2.2.2.2.1 (by decide) (by decide), if_neg (by omega), if_pos m]
end Go.Proofs.Ytfooaikpcbnchaa

/-! ## Cqq -/
namespace Go.Proofs.Ytfooaikpcbnchaa
open Go Go.RowKit Sym
set_option maxRecDepth 100000

theorem pt_key {T : Sh} (hN : T.n ≤ 12) {add : Nat → Bool} {sub : Nat → Shp} (hf : ∀ i, i < T.n → T.f i = partC (add i) (toSh (sub i))) (hT : ∀ i, i < T.n → Tam2 (sub i)) {σ : Shp} (hσ : Tam2 σ) {b : B4} (hb : -19 ≤ b.x0 ∧ b.x0 ≤ b.x1 ∧ b.x1 ≤ 26 ∧ -19 ≤ b.y0 ∧ b.y0 ≤ b.y1 ∧ b.y1 ≤ 26) (x y : Int) :
    (PxL T.n T.f ∧ PxHd 1 (ptH (toSh σ)) ∧ PxHd 2 (ptH2 (toSh σ)) ∧ PxHd 1 ptHa ∧ PxL (2 * T.n) (ptF add fun i => toSh (sub i)) ∧ PxL (ptBoth T (toSh σ)).n (ptBoth T (toSh σ)).f ∧ PxL (ptOne T (toSh σ)).n (ptOne T (toSh σ)).f ∧ PxL ((ptAll T).n + T.n) (ptAn T) ∧ (ptAll T).n = T.n + 1) ∧ an (ptV6 T (toSh σ) (ptF add fun i => toSh (sub i)) b (lIn b x y)) true = true := by
  have hs : ∀ i, i < T.n → ShB (sub i) ∧ cntS (sub i) ≤ 100000000 := fun i hi => ⟨(hT i hi).B, (hT i hi).c⟩
  have A := lst_eq (by omega) hs hf
  obtain ⟨ad, su, e0, _, hs0, hf0⟩ := lst_spec A.1
  have q : ∀ i, i < T.n → ad i = add i ∧ su i = sub i := fun i hi => partC_inj ((hf0 i hi).symm.trans (hf i hi))
  have B := lst_eq (n := 2 * T.n) (f := ptF add fun i => toSh (sub i)) (add := fun i => ad (i / 2)) (sub := fun i => su (i / 2)) (by omega) (fun i hi => hs0 _ (by omega)) (fun i hi => by
    have h2 : i / 2 < T.n := by omega
    unfold ptF
    rw [(q _ h2).1, (q _ h2).2])
  -- one hole
  have hH : PxH 1 (ptH (toSh σ)) := ⟨fun _ => σ, by decide, fun _ _ => ⟨hσ.B, hσ.c⟩, fun i hi => by have h0 : i = 0 := Nat.lt_one_iff.1 hi; subst h0; rfl⟩
  have hHd := hlD_px hH
  obtain ⟨ho, eh, _, _, hh0⟩ := hl_spec hH
  have e1 : ho 0 = σ := toSh_injQ (cS_injQ ((hh0 0 (by decide)).symm.trans rfl))
  have eD : ptOne T (toSh σ) = toSh (lesL T.n ad su 1 ho) := by unfold ptOne lesS; rw [e0, hHd.2, eh]; rfl
  have D := lst_eq (n := T.n + 1) (f := (toSh (lesL T.n ad su 1 ho)).f) (add := fun i => bif Nat.blt i T.n then ad i else false) (sub := fun i => bif Nat.blt i T.n then su i else σ) (by omega) (fun i hi => by
      by_cases h : i < T.n
      · rw [blt_t h]; exact hs0 i h
      · obtain rfl : i = T.n := by omega
        rw [blt_f]; exact ⟨hσ.B, hσ.c⟩) (fun i hi => by
      show partC (bif Nat.blt i T.n then ad i else false) (toSh (bif Nat.blt i T.n then su i else ho (i - T.n))) = _
      by_cases h : i < T.n
      · rw [blt_t h]; rfl
      · obtain rfl : i = T.n := by omega
        rw [blt_f, Nat.sub_self, e1])
  have hD1 : ∀ p, pHas (lstOf (ptOne T (toSh σ)).n (ptOne T (toSh σ)).f) p = bif figHasS σ p then false else pHas (lForm T.n ad su) p := fun p => by
    rw [eD]; exact (D.2.1 p).trans (mor_has T.n ad su false σ p)
  have hD2 : ∀ b, pClassC (lstOf (ptOne T (toSh σ)).n (ptOne T (toSh σ)).f) b = foldF (pClassC (lForm T.n ad su) b) (figClassC σ b) false := fun b => by
    rw [eD]; exact (D.2.2 b).trans (mor_cls T.n ad su false σ b)
  -- the hole twice
  have h2 : ∀ i, ptH2 (toSh σ) i = cS (toSh σ) := fun i => zip_self _ _
  have hG : PxH 2 (ptH2 (toSh σ)) := ⟨fun _ => σ, by decide, fun _ _ => ⟨hσ.B, hσ.c⟩, fun i _ => h2 i⟩
  have hGd := hlD_px hG
  obtain ⟨h2o, eg, _, _, hg0⟩ := hl_spec hG
  have g0 : ∀ i, i < 2 → h2o i = σ := fun i hi => toSh_injQ (cS_injQ ((hg0 i hi).symm.trans (h2 i)))
  have eG : ptBoth T (toSh σ) = toSh (lesL T.n ad su 2 h2o) := by unfold ptBoth lesS; rw [e0, hGd.2, eg]; rfl
  have G := lst_eq (n := T.n + 2) (f := (toSh (lesL T.n ad su 2 h2o)).f) (add := fun i => bif Nat.blt i (T.n + 1) then (bif Nat.blt i T.n then ad i else false) else false) (sub := fun i => bif Nat.blt i (T.n + 1) then (bif Nat.blt i T.n then su i else σ) else σ) (by omega) (fun i hi => by
      by_cases h : i < T.n
      · rw [blt_t h, blt_t (show i < T.n + 1 by omega)]; exact hs0 i h
      · rw [blt_no (Nat.le_of_not_lt h)]
        cases Nat.blt i (T.n + 1) <;> exact ⟨hσ.B, hσ.c⟩) (fun i hi => by
      show partC (bif Nat.blt i T.n then ad i else false) (toSh (bif Nat.blt i T.n then su i else h2o (i - T.n))) = _
      by_cases h : i < T.n
      · rw [blt_t h, blt_t (show i < T.n + 1 by omega)]; rfl
      · rw [blt_no (Nat.le_of_not_lt h), g0 _ (by omega)]
        cases Nat.blt i (T.n + 1) <;> rfl)
  have hG1 : ∀ p, pHas (lstOf (ptBoth T (toSh σ)).n (ptBoth T (toSh σ)).f) p = bif figHasS σ p then false else pHas (lForm T.n ad su) p := fun p => by
    rw [eG]
    refine (G.2.1 p).trans ((mor_has (T.n + 1) (fun i => bif Nat.blt i T.n then ad i else false) (fun i => bif Nat.blt i T.n then su i else σ) false σ p).trans ?_)
    rw [show pHas (lForm (T.n + 1) (fun i => bif Nat.blt i T.n then ad i else false) (fun i => bif Nat.blt i T.n then su i else σ)) p = _ from mor_has T.n ad su false σ p, has_twice]
  have hG2 : ∀ b, pClassC (lstOf (ptBoth T (toSh σ)).n (ptBoth T (toSh σ)).f) b = foldF (pClassC (lForm T.n ad su) b) (figClassC σ b) false := fun b => by
    rw [eG]
    refine (G.2.2 b).trans ((mor_cls (T.n + 1) (fun i => bif Nat.blt i T.n then ad i else false) (fun i => bif Nat.blt i T.n then su i else σ) false σ b).trans ?_)
    rw [show pClassC (lForm (T.n + 1) (fun i => bif Nat.blt i T.n then ad i else false) (fun i => bif Nat.blt i T.n then su i else σ)) b = _ from mor_cls T.n ad su false σ b, foldF_twice (pile3 _ b) (fig3 _ b)]
  -- all of it, and anew
  have hA := hlD_lit (h := ptHa) rfl
  have eA : ptAll T = toSh (lesL T.n ad su 1 fun _ => discS 1000) := by unfold ptAll lesS; rw [e0, hA.2]; rfl
  have nA : (ptAll T).n = T.n + 1 := by rw [eA]; rfl
  have C := lst_eq (n := (ptAll T).n + T.n) (f := ptAn T) (add := fun i => bif Nat.blt i T.n then ad i else bif Nat.blt i (T.n + 1) then false else ad (i - (T.n + 1))) (sub := fun i => bif Nat.blt i T.n then su i else bif Nat.blt i (T.n + 1) then discS 1000 else su (i - (T.n + 1))) (by omega) (fun i hi => by
      rw [nA] at hi
      by_cases h : i < T.n
      · rw [blt_t h]; exact hs0 i h
      · rw [blt_no (Nat.le_of_not_lt h)]
        by_cases h' : i < T.n + 1
        · rw [blt_t h']; exact ⟨disc_B 1000, disc_cnt 1000⟩
        · rw [blt_no (Nat.le_of_not_lt h')]; exact hs0 _ (by omega)) (fun i hi => by
      rw [nA] at hi
      unfold ptAn Dyn.appF
      rw [nA, eA]
      by_cases h' : i < T.n + 1
      · rw [blt_t h']
        show partC (bif Nat.blt i T.n then ad i else false) (toSh (bif Nat.blt i T.n then su i else discS 1000)) = _
        by_cases h : i < T.n
        · rw [blt_t h]; rfl
        · rw [blt_no (Nat.le_of_not_lt h)]; rfl
      · rw [blt_no (Nat.le_of_not_lt h'), blt_no (show T.n ≤ i by omega)]
        exact hf0 _ (by omega))
  have hC1 : pHas (lstOf ((ptAll T).n + T.n) (ptAn T)) (lIn b x y) = pHas (lForm T.n ad su) (lIn b x y) := by
    rw [C.2.1, nA]; exact anew_has T.n ad su (all_has hb x y)
  have hC2 : pClassC (lstOf ((ptAll T).n + T.n) (ptAn T)) b = pClassC (lForm T.n ad su) b := by
    rw [C.2.2, nA]; exact anew_cls T.n ad su (all_cls hb)
  have hB1 : pHas (lstOf (2 * T.n) (ptF add fun i => toSh (sub i))) (lIn b x y) = pHas (lForm T.n ad su) (lIn b x y) := (B.2.1 _).trans (two_has ad su _ T.n)
  have hB2 : pClassC (lstOf (2 * T.n) (ptF add fun i => toSh (sub i))) b = pClassC (lForm T.n ad su) b := (B.2.2 _).trans (two_cls ad su _ T.n)
  refine ⟨⟨A.1, hHd.1, hGd.1, hA.1, B.1, by rw [eG]; exact G.1, by rw [eD]; exact D.1, C.1, nA⟩, ?_⟩
  unfold ptV6 ptV5 ptV4 ptV3 ptV2 ptV1
  simp only [pClass_C]
  rw [hB1, hB2, hC1, hC2, hD1, hD2, hG1, hG2, e0]
  simp [an]
theorem pileTwice_ok (t : Shp) (ht : ShW t) (s : Shp) (hs : ShW s) (b : B4) (x y : Int) : Dyn.CallR Try.prog 10 [dvL (toSh t), dvS (toSh s), dvX b, dvI x, dvI y] (rB true) := by
  cases t with
  | nil => exact ht.elim
  | mk k a b' c r l n add sub =>
    have hw : ShW (lForm n add sub) := ht
    have eX : (obX n fun i => partC (add i) (toSh (sub i))) = toSh (lForm n add sub) := rfl
    have eT : toSh (tame21 (ofSh (obX n fun i => partC (add i) (toSh (sub i)))) true) = mkL (min n 12) add (fun i => toSh (tameS (sub i) true 2)) := by rw [eX, ofSh_toSh]; rfl
    refine Dyn.rcontract (lp := ptLp (toSh (tame21 (ofSh (obX n fun i => partC (add i) (toSh (sub i)))) true)) (tameE (toSh s) true 2) (lSmall b) (lIn (lSmall b) x y) (ptF add fun i => toSh (tameS (sub i) true 2))) (fuel := 3) tabPt_ok mo Try.func10 (by kernel_rfl) (c := bodyD Try.f10.body) (by kernel_rfl)
      (fun w0 => by
        rw [pt_blocks, eT]
        exact lpOk_cons (pt_loop (min n 12) add (fun i => toSh (tameS (sub i) true 2)) _ _ _ (by omega) w0) (lpOk_cons (fun s o h => by cases h) lpOk_nil)) (by kernel_rfl) (pt_O n (fun i => partC (add i) (toSh (sub i))) (toSh s) b x y _) ?_
    unfold ptO
    rw [eX, ofSh_toSh]
    refine ⟨⟨PdW_mk hw, fun _ => ⟨PdW_mk hs, ctrSelf_ok _, trivial⟩, trivial⟩, fun h => ro_leaf rfl, fun h => ?_⟩
    have h1 : small21 (lForm n add sub) = true := by
      cases e : small21 (lForm n add sub) with
      | true => rfl
      | false => rw [e] at h; cases h
    have h2 : smallE (toSh s) 0 = true := by
      rw [h1] at h
      simpa using h
    have hB := lf_B (n := n) (add := add) (sub := sub) h1
    have hsB : ShB s := by
      have := small_B (ofSh (toSh s)) 0 (by simpa [smallE] using h2)
      rwa [ofSh_toSh] at this
    have eσ : tameE (toSh s) true 2 = toSh (tameS s true 2) := tameE_eq s true 2
    have hq := lSmall_r b
    have hn12 : (toSh (tame21 (lForm n add sub) true)).n ≤ 12 := show min n 12 ≤ 12 by omega
    have K := pt_key (T := toSh (tame21 (lForm n add sub) true)) hn12 (add := add) (sub := fun i => tameS (sub i) true 2) (fun i _ => rfl) (fun i hi => by
        have hi' : i < min n 12 := hi
        exact tam2_of _ (hB.2.2 i (by omega))) (tam2_of s hsB) (b := lSmall b) (by omega) x y
    obtain ⟨⟨k1, k2, k3, k4, k5, k6, k7, k8, kn⟩, k9⟩ := K
    unfold ptO0
    rw [eX, eσ]
    refine ⟨⟨PdS_mk hB, PdS_mk hsB, ctrSelf_ok _, trivial⟩, ⟨lSmall_In b, trivial⟩, ⟨rfl, trivial⟩, ⟨k1, k2, k1, k3, trivial⟩, ⟨k1, k4, szA_ok (by decide) (by omega), trivial⟩, ⟨k5, k1, fun _ => ⟨k5, trivial⟩, fun _ => ⟨k1, trivial⟩, fun _ => ⟨k6, trivial⟩, fun _ => ⟨k7, trivial⟩, fun _ => ⟨k6, trivial⟩, fun _ => ⟨k7, trivial⟩, fun _ => ⟨k8, trivial⟩, fun _ => ⟨k1, trivial⟩, fun _ => ⟨k8, trivial⟩, fun _ => ⟨k1, trivial⟩, trivial⟩, ?_⟩
    rw [k9]
    exact ro_leaf rfl
end Go.Proofs.Ytfooaikpcbnchaa
