/-
  OWN WORK. A second symbolic executor, part M: regions: the order of the text serves every order.
-/
import Derived.Test.YtgdjfclpncpnpaaDynL
namespace Go.Proofs.Ytgdjfclpncpnpaa.Dyn
open Go Go.RowKit Sym

theorem plains_congr {ev ev' : Operand → SV} : ∀ {xs : List Operand}, (∀ x ∈ xs, ev x = ev' x) → plains ev xs = plains ev' xs
  | [], _ => rfl
  | x :: xs, h => by
    simp only [plains]
    rw [h x (by simp), plains_congr (xs := xs) fun y hy => h y (by simp [hy])]

theorem plainRes_congr {P : Program} {ev ev' : Operand → SV} {o : Oper} (h : ∀ x ∈ o.op.operands, ev x = ev' x) : plainRes P ev o = plainRes P ev' o := by
  unfold plainRes
  rw [plains_congr (xs := o.op.operands.toList) fun x hx => h x (Array.mem_toList_iff.1 hx)]
  split
  · rfl
  · rename_i hsel
    rw [execOp_congr (ρ := fun x => plainD (ev x)) (ρ' := fun x => plainD (ev' x)) o hsel fun x hx => congrArg plainD (h x hx)]
    have e : o.op.operands.toList.all (fun x => closed (ev x)) = o.op.operands.toList.all (fun x => closed (ev' x)) := by
      rw [Bool.eq_iff_iff, List.all_eq_true, List.all_eq_true]
      exact ⟨fun k x hx => by rw [← h x (Array.mem_toList_iff.1 hx)]; exact k x hx, fun k x hx => by rw [h x (Array.mem_toList_iff.1 hx)]; exact k x hx⟩
    rw [e]
  · rfl

theorem nameds_congr {ev ev' : Operand → SV} : ∀ {xs : List Operand}, (∀ x ∈ xs, ev x = ev' x) → nameds ev xs = nameds ev' xs
  | [], _ => rfl
  | x :: xs, h => by
    simp only [nameds]
    rw [h x (by simp), nameds_congr (xs := xs) fun y hy => h y (by simp [hy])]
theorem namesL_congr {ev ev' : Operand → SV} : ∀ {xs : List Operand}, (∀ x ∈ xs, ev x = ev' x) → namesL ev xs = namesL ev' xs
  | [], _ => rfl
  | x :: xs, h => by
    simp only [namesL]
    rw [h x (by simp), namesL_congr (xs := xs) fun y hy => h y (by simp [hy])]

theorem opRes_congr {P : Program} {X : Tabs} {ev ev' : List (Nat × Bool) → Operand → SV} {hp : Nat → Option HE} {fresh : Nat} {cs : List (Nat × Bool)} {o : Oper}
    (h : ∀ x ∈ o.op.operands, ∀ c, ev c x = ev' c x) : opRes P X ev hp fresh cs o = opRes P X ev' hp fresh cs o := by
  have hpl := plainRes_congr (P := P) (o := o) (ev := ev cs) (ev' := ev' cs) fun x hx => h x hx cs
  have hparts : ∀ (parts : Array (Nat × Operand)), o.op.operands = (parts.toList.map (·.2)).toArray → nameds (ev cs) (parts.toList.map (·.2)) = nameds (ev' cs) (parts.toList.map (·.2)) := fun parts hop => nameds_congr fun x hx => h x (by rw [hop, ← Array.mem_toList_iff]; exact hx) cs
  unfold opRes
  split
  · rename_i c x y ho
    have hc : ∀ q, ev q c = ev' q c := h c (by simp [ho, Op.operands])
    have hx : ∀ q, ev q x = ev' q x := h x (by simp [ho, Op.operands])
    have hy : ∀ q, ev q y = ev' q y := h y (by simp [ho, Op.operands])
    have hb : ∀ (b : Bool) q, ev q (if b then x else y) = ev' q (if b then x else y) := fun b q => by cases b <;> simp [hx, hy]
    simp only [hc, hx, hy, hb]
  · rename_i x ho; rw [h x (by simp [ho, Op.operands])]
  · rename_i x ho; rw [h x (by simp [ho, Op.operands])]
  · rfl
  · rename_i t x ho; rw [h x (by simp [ho, Op.operands])]
  · rename_i t x ho; rw [h x (by simp [ho, Op.operands])]
  · rename_i t x y ho; rw [h x (by simp [ho, Op.operands]), h y (by simp [ho, Op.operands])]
  · rename_i s x f ho; rw [h x (by simp [ho, Op.operands])]
  · rename_i t x y ho; rw [h x (by simp [ho, Op.operands]), h y (by simp [ho, Op.operands])]
  · rename_i t parts ho; rw [hparts parts (by rw [ho]; rfl)]
  · rename_i x i ho; rw [h x (by simp [ho, Op.operands]), hpl]
  · rename_i t x f ho; rw [h x (by simp [ho, Op.operands])]
  · rename_i F first caps ho
    rw [nameds_congr (ev := ev cs) (ev' := ev' cs) (xs := caps.toList) fun x hx => h x (by simp only [ho, Op.operands]; simp; exact .inr (Array.mem_toList_iff.1 hx)) cs]
  · rename_i t len parts ho; rw [hparts parts (by rw [ho]; rfl)]
  · rename_i t x y ho; rw [h x (by simp [ho, Op.operands]), h y (by simp [ho, Op.operands])]
  · rename_i args argTypes ho
    have ha : ∀ x, args.toList = [x] → ev cs x = ev' cs x := fun x hx => h x (by simp only [ho, Op.operands, Call.operands]; simp; rw [← Array.mem_toList_iff, hx]; simp) cs
    split
    · rename_i x t hx ht
      rw [ha x hx, hpl]
    · rfl
  · rename_i args argTypes ho
    have ha : ∀ x ∈ args.toList, ev cs x = ev' cs x := fun x hx => h x (by simp only [ho, Op.operands, Call.operands]; simp; exact Array.mem_toList_iff.1 hx) cs
    split
    · rename_i x y t t' hx ht
      rw [ha x (by rw [hx]; simp), ha y (by rw [hx]; simp)]
    · rfl
  · rename_i f args ts ho
    have ha : ∀ x ∈ args.toList, ev cs x = ev' cs x := fun x hx => h x (by simp only [ho, Op.operands, Call.operands]; simp; exact .inr (Array.mem_toList_iff.1 hx)) cs
    rw [plains_congr ha, nameds_congr ha]
  · rename_i t args ts ho
    have ha : ∀ x ∈ args.toList, ev cs x = ev' cs x := fun x hx => h x (by simp only [ho, Op.operands, Call.operands]; simp; exact .inr (Array.mem_toList_iff.1 hx)) cs
    have ht : ev cs (.tmp t) = ev' cs (.tmp t) := h (.tmp t) (by simp [ho, Op.operands, Call.operands]) cs
    rw [plains_congr ha, nameds_congr ha, ht]
  · rename_i op t x y ty ho
    have hx := h x (by simp [ho, Op.operands]) cs
    have hy := h y (by simp [ho, Op.operands]) cs
    rw [hx, hy, hpl]
  · exact hpl

def tmpOf : Operand → Option Nat
  | .tmp t => some t
  | _ => none
def readsOf (o : Oper) : List Nat := o.op.operands.toList.filterMap tmpOf

theorem evS_set {l : List SV} {d : Nat} {s : SV} {cs : List (Nat × Bool)} {x : Operand} (h : x ≠ .tmp d) : evS (l.set d s) cs x = evS l cs x := by
  cases x with
  | tmp t =>
    have : d ≠ t := fun e => h (by rw [e])
    simp only [evS]
    rw [getD_set', if_neg (fun z => this z.1)]
  | _ => rfl

theorem tmp_mem {o : Oper} {x : Operand} {d : Nat} (hx : x ∈ o.op.operands) (hd : d ∉ readsOf o) : x ≠ .tmp d := fun e => hd (by
  subst e
  exact List.mem_filterMap.2 ⟨.tmp d, Array.mem_toList_iff.2 hx, rfl⟩)

theorem touchOf_congr {X : Tabs} {ev ev' : Operand → SV} {fresh : Nat} {o : Oper} (h : ∀ x ∈ o.op.operands, ev x = ev' x) : touchOf X ev fresh o = touchOf X ev' fresh o := by
  unfold touchOf
  split
  · rename_i t x ho; rw [h x (by simp [ho, Op.operands])]
  · rename_i t x y ho; rw [h x (by simp [ho, Op.operands]), h y (by simp [ho, Op.operands])]
  · rfl
  · rfl
  · rfl
  · rename_i t len ps ho
    rw [namesL_congr (ev := ev) (ev' := ev') fun x hx => h x (by simp only [ho, Op.operands]; rw [← Array.mem_toList_iff]; exact hx)]
  · rename_i t x y ho; rw [h x (by simp [ho, Op.operands])]
  · rename_i t x f ho; rw [h x (by simp [ho, Op.operands])]
  · rename_i args ts ho
    rw [namesL_congr (ev := ev) (ev' := ev') fun x hx => h x (by simp only [ho, Op.operands, Call.operands]; simp; exact Array.mem_toList_iff.1 hx)]
  · rename_i b args ts hb ho
    rw [namesL_congr (ev := ev) (ev' := ev') fun x hx => h x (by simp only [ho, Op.operands, Call.operands]; simp; exact Array.mem_toList_iff.1 hx)]
  · rename_i F args ts ho
    rw [namesL_congr (ev := ev) (ev' := ev') fun x hx => h x (by simp only [ho, Op.operands, Call.operands]; simp; exact .inr (Array.mem_toList_iff.1 hx))]
  · rename_i t args ts ho
    rw [namesL_congr (ev := ev) (ev' := ev') fun x hx => h x (by simp only [ho, Op.operands, Call.operands]; simp; exact .inr (Array.mem_toList_iff.1 hx)), h (.tmp t) (by simp [ho, Op.operands, Call.operands])]
  · rfl

theorem condP_set {l : List SV} {d : Nat} {s : SV} : ∀ {cs : List (Nat × Bool)}, (∀ c ∈ cs, c.1 ≠ d) → condP (l.set d s) cs = condP l cs
  | [], _ => rfl
  | c :: cs, h => by
    simp only [condP]
    rw [boolAt_set (h c (by simp)), condP_set fun x hx => h x (by simp [hx])]

theorem onB_set {l : List SV} {d : Nat} {s : SV} : ∀ {cs : List (Nat × Bool)}, (∀ c ∈ cs, c.1 ≠ d) → onB (l.set d s) cs = onB l cs
  | [], _ => rfl
  | c :: cs, h => by
    simp only [onB]
    rw [onB_set fun x hx => h x (by simp [hx]), List.getElem?_set_ne (Ne.symm (h c (by simp)))]

/-- A step sees nothing of a slot that it does not read, and of a block that it does not touch. -/
theorem core_frame {P : Program} {X : Tabs} {ops : Array Oper} {base j : Nat} {o : Oper} {t : Tch} {st : St} {dst : Option Nat} {r : Res} {cs : List (Nat × Bool)}
    (hcs : chainOf ops (ops.size + 1) o = some cs) (hd : ∀ d, dst = some d → d ∉ readsOf o ∧ ∀ c ∈ cs, c.1 ≠ d) (hu : ∀ n c, (n, c) ∈ r.upd → n ∉ t.1 ∧ n ∉ t.2) :
    core P X ops base j o t (st.put dst r) = core P X ops base j o t st := by
  have hev : ∀ x ∈ o.op.operands, ∀ c, evS (st.put dst r).slots c x = evS st.slots c x := fun x hx c => by
    unfold St.put
    cases hdst : dst with
    | none => rfl
    | some d => exact evS_set (tmp_mem hx (hd d hdst).1)
  have hhp : hpOf (st.put dst r).heap t = hpOf st.heap t := by
    funext n
    show hpOf (heapSet st.heap r.upd) t n = hpOf st.heap t n
    unfold hpOf
    split
    · rename_i hmem
      exact heapSet_ne _ _ fun c hc => by
        have := hu n c hc
        simp [this.1, this.2] at hmem
    · rfl
  have hcp : condP (st.put dst r).slots cs = condP st.slots cs := by
    unfold St.put
    cases hdst : dst with
    | none => rfl
    | some d => exact condP_set (hd d hdst).2
  have hoff : offB (st.put dst r).slots ops o = offB st.slots ops o := by
    unfold St.put
    cases hdst : dst with
    | none => rfl
    | some d =>
      unfold offB
      split
      · rfl
      · rename_i g want hg
        split
        · rename_i d0 hd0
          have hne : d0 ≠ d := by
            simp only [chainOf, hg] at hcs
            split at hcs
            · rename_i og hog
              split at hcs
              · rename_i d1 cs' hd1 _
                simp only [Option.some.injEq] at hcs; subst hcs
                rw [hog] at hd0
                have e1 : og.dst = some d0 := hd0
                have e2 : d1 = d0 := Option.some.inj (hd1.symm.trans e1)
                subst e2
                exact (hd d hdst).2 (d1, want) (by simp)
              · cases hcs
            · cases hcs
          dsimp only
          rw [List.getElem?_set_ne (Ne.symm hne)]
        · rfl
  have hon : onB (st.put dst r).slots cs = onB st.slots cs := by
    unfold St.put
    cases hdst : dst with
    | none => rfl
    | some d => exact onB_set (hd d hdst).2
  have hdo : dropOn (st.put dst r).slots cs = dropOn st.slots cs := by
    unfold St.put
    cases hdst : dst with
    | none => rfl
    | some d => exact dropOn_set (hd d hdst).2
  unfold core
  rw [hcs]
  dsimp only
  rw [hoff, hon, hdo, touchOf_congr (X := X) (ev := evS (st.put dst r).slots cs) (ev' := evS st.slots cs) fun x hx => hev x hx cs, opRes_congr (ev := evS (st.put dst r).slots) (ev' := evS st.slots) hev, hhp, hcp]
  split
  · split
    · rfl
    split
    · rfl
    · split
      · split
        · rfl
        split
        · rfl
        · rename_i g want hg
          split
          · rename_i d0 hd0 _
            have hgs : gslot (st.put dst r).slots d0 (dropOn st.slots cs).dropLast = gslot st.slots d0 (dropOn st.slots cs).dropLast ∨ (dropOn st.slots cs == (dropOn st.slots cs).dropLast ++ [(d0, want)]) = false := by
              by_cases hq : (dropOn st.slots cs == (dropOn st.slots cs).dropLast ++ [(d0, want)]) = true
              · left
                have hm : (d0, want) ∈ cs := dropOn_mem (l := st.slots) <| by
                  have := eq_of_beq hq
                  rw [this]; simp
                unfold St.put
                cases hdst : dst with
                | none => rfl
                | some d =>
                  have hne : d0 ≠ d := (hd d hdst).2 _ hm
                  unfold gslot
                  dsimp only
                  rw [List.getElem?_set_ne (Ne.symm hne)]
              · right; simpa using hq
            have hnl : namesL (evS (st.put dst r).slots cs) o.op.operands.toList = namesL (evS st.slots cs) o.op.operands.toList := namesL_congr fun x hx => hev x (Array.mem_toList_iff.1 hx) cs
            rw [hnl]
            rcases hgs with hgs | hgs <;> rw [hgs]
            simp
          · rfl
      · rfl
  · rfl
end Go.Proofs.Ytgdjfclpncpnpaa.Dyn
