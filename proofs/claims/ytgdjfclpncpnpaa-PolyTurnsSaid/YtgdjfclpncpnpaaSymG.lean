/-
  OWN WORK. A symbolic executor for Go text over open terms, part G: regions: the order of the text serves every order.
-/
import Derived.Test.YtgdjfclpncpnpaaSymF
namespace Go.Proofs.Ytgdjfclpncpnpaa.Sym
open Go Go.RowKit

theorem plains_congr {ev ev' : Operand → SV} : ∀ {xs : List Operand}, (∀ x ∈ xs, ev x = ev' x) → plains ev xs = plains ev' xs
  | [], _ => rfl
  | x :: xs, h => by
    simp only [plains]
    rw [h x (by simp), plains_congr (xs := xs) fun y hy => h y (by simp [hy])]

theorem plainRes_congr {P : Program} {ev ev' : Operand → SV} {o : Oper} (h : ∀ x ∈ o.op.operands, ev x = ev' x) : plainRes P ev o = plainRes P ev' o := by
  unfold plainRes
  rw [plains_congr (xs := o.op.operands.toList) fun x hx => h x (Array.mem_toList_iff.1 hx)]
  split
  · rfl
  · rename_i hsel
    rw [execOp_congr (ρ := fun x => plainD (ev x)) (ρ' := fun x => plainD (ev' x)) o hsel fun x hx => congrArg plainD (h x hx)]
    have e : o.op.operands.toList.all (fun x => closed (ev x)) = o.op.operands.toList.all (fun x => closed (ev' x)) := by
      rw [Bool.eq_iff_iff, List.all_eq_true, List.all_eq_true]
      exact ⟨fun k x hx => by rw [← h x (Array.mem_toList_iff.1 hx)]; exact k x hx, fun k x hx => by rw [h x (Array.mem_toList_iff.1 hx)]; exact k x hx⟩
    rw [e]
  · rfl

theorem opRes_congr {P : Program} {tb : Nat → List Value → Option (Value × List Prop)} {ev ev' : List (Nat × Bool) → Operand → SV} {hp : Nat → Option Cells} {fresh : Nat} {cs : List (Nat × Bool)} {o : Oper}
    (h : ∀ x ∈ o.op.operands, ∀ c, ev c x = ev' c x) : opRes P tb ev hp fresh cs o = opRes P tb ev' hp fresh cs o := by
  have hpl := plainRes_congr (P := P) (o := o) (ev := ev cs) (ev' := ev' cs) fun x hx => h x hx cs
  unfold opRes
  split
  · rename_i c x y ho
    have hc : ∀ q, ev q c = ev' q c := h c (by simp [ho, Op.operands])
    have hx : ∀ q, ev q x = ev' q x := h x (by simp [ho, Op.operands])
    have hy : ∀ q, ev q y = ev' q y := h y (by simp [ho, Op.operands])
    have hb : ∀ (b : Bool) q, ev q (if b then x else y) = ev' q (if b then x else y) := fun b q => by cases b <;> simp [hx, hy]
    simp only [hc, hx, hy, hb]
  · rename_i x ho; rw [h x (by simp [ho, Op.operands])]
  · rename_i x ho; rw [h x (by simp [ho, Op.operands])]
  · rfl
  · rename_i t x ho; rw [h x (by simp [ho, Op.operands])]
  · rename_i t x ho; rw [h x (by simp [ho, Op.operands])]
  · rename_i t x y ho; rw [h x (by simp [ho, Op.operands]), h y (by simp [ho, Op.operands])]
  · rename_i s x f ho; rw [h x (by simp [ho, Op.operands])]
  · rename_i t x y ho; rw [h x (by simp [ho, Op.operands]), h y (by simp [ho, Op.operands])]
  · rename_i t len parts ho
    have hm : ∀ p ∈ parts.toList, ∀ q, ev q p.2 = ev' q p.2 := fun p hp => h p.2 (by simp only [ho, Op.operands]; rw [← Array.mem_toList_iff]; exact List.mem_map.2 ⟨p, hp, rfl⟩)
    rw [plains_congr (ev := ev cs) (ev' := ev' cs) (xs := parts.toList.map (·.2)) fun x hx => by obtain ⟨p, hp, rfl⟩ := List.mem_map.1 hx; exact hm p hp cs]
    have e : (parts.toList.map fun p => (p.1, plainD (ev cs p.2))) = parts.toList.map fun p => (p.1, plainD (ev' cs p.2)) := List.map_congr_left fun p hp => by rw [hm p hp]
    rw [e]
  · rename_i f args ts ho
    rw [plains_congr (ev := ev cs) (ev' := ev' cs) (xs := args.toList) fun x hx => h x (by simp only [ho, Op.operands, Call.operands]; simp; exact .inr (Array.mem_toList_iff.1 hx)) cs]
  · rename_i op t x y ty ho
    have hx := h x (by simp [ho, Op.operands]) cs
    have hy := h y (by simp [ho, Op.operands]) cs
    rw [hx, hy, hpl]
  · exact hpl

def tmpOf : Operand → Option Nat
  | .tmp t => some t
  | _ => none
def readsOf (o : Oper) : List Nat := o.op.operands.toList.filterMap tmpOf

theorem evS_set {l : List SV} {d : Nat} {s : SV} {cs : List (Nat × Bool)} {x : Operand} (h : x ≠ .tmp d) : evS (l.set d s) cs x = evS l cs x := by
  cases x with
  | tmp t =>
    have : d ≠ t := fun e => h (by rw [e])
    simp only [evS]
    rw [getD_set', if_neg (fun z => this z.1)]
  | _ => rfl

theorem tmp_mem {o : Oper} {x : Operand} {d : Nat} (hx : x ∈ o.op.operands) (hd : d ∉ readsOf o) : x ≠ .tmp d := fun e => hd (by
  subst e
  exact List.mem_filterMap.2 ⟨.tmp d, Array.mem_toList_iff.2 hx, rfl⟩)

theorem touchOf_congr {ev ev' : Operand → SV} {fresh : Nat} {o : Oper} (h : ∀ x ∈ o.op.operands, ev x = ev' x) : touchOf ev fresh o = touchOf ev' fresh o := by
  unfold touchOf
  split
  · rename_i t x ho; rw [h x (by simp [ho, Op.operands])]
  · rename_i t x y ho; rw [h x (by simp [ho, Op.operands])]
  · rfl
  · rfl
  · rfl
  · rfl

theorem condP_set {l : List SV} {d : Nat} {s : SV} : ∀ {cs : List (Nat × Bool)}, (∀ c ∈ cs, c.1 ≠ d) → condP (l.set d s) cs = condP l cs
  | [], _ => rfl
  | c :: cs, h => by
    simp only [condP]
    rw [boolAt_set (h c (by simp)), condP_set fun x hx => h x (by simp [hx])]

/-- A step sees nothing of a slot that it does not read, and of a block that it does not touch. -/
theorem core_frame {P : Program} {tb : Nat → List Value → Option (Value × List Prop)} {ops : Array Oper} {base j : Nat} {o : Oper} {t : Tch} {st : St} {dst : Option Nat} {r : Res} {cs : List (Nat × Bool)}
    (hcs : chainOf ops (ops.size + 1) o = some cs) (hd : ∀ d, dst = some d → d ∉ readsOf o ∧ ∀ c ∈ cs, c.1 ≠ d) (hu : ∀ n c, r.upd = some (n, c) → n ∉ t.1 ∧ n ∉ t.2) :
    core P tb ops base j o t (st.put dst r) = core P tb ops base j o t st := by
  have hev : ∀ x ∈ o.op.operands, ∀ c, evS (st.put dst r).slots c x = evS st.slots c x := fun x hx c => by
    unfold St.put
    cases hdst : dst with
    | none => rfl
    | some d => exact evS_set (tmp_mem hx (hd d hdst).1)
  have hhp : hpOf (st.put dst r).heap t = hpOf st.heap t := by
    funext n
    show hpOf (heapSet st.heap r.upd) t n = hpOf st.heap t n
    cases hupd : r.upd with
    | none => rfl
    | some x =>
      obtain ⟨k, c⟩ := x
      obtain ⟨h1, h2⟩ := hu k c hupd
      unfold hpOf heapSet
      by_cases hk : k = n
      · subst hk
        rw [if_neg (by simp [h1, h2]), if_neg (by simp [h1, h2])]
      · have e : (st.heap.set k (some c)).getD n none = st.heap.getD n none := by rw [getD_set', if_neg (fun z => hk z.1)]
        dsimp only
        rw [e]
  have hcp : condP (st.put dst r).slots cs = condP st.slots cs := by
    unfold St.put
    cases hdst : dst with
    | none => rfl
    | some d => exact condP_set (hd d hdst).2
  unfold core
  rw [hcs]
  dsimp only
  rw [touchOf_congr (ev := evS (st.put dst r).slots cs) (ev' := evS st.slots cs) fun x hx => hev x hx cs, opRes_congr (ev := evS (st.put dst r).slots) (ev' := evS st.slots) hev, hhp, hcp]
  split
  · split
    · rfl
    · split
      · split
        · rfl
        · rename_i g want hg
          split
          · rename_i d0 hd0 _
            have hgs : gslot (st.put dst r).slots d0 cs.dropLast = gslot st.slots d0 cs.dropLast ∨ (cs == cs.dropLast ++ [(d0, want)]) = false := by
              by_cases hq : (cs == cs.dropLast ++ [(d0, want)]) = true
              · left
                have hm : (d0, want) ∈ cs := by
                  have := eq_of_beq hq
                  rw [this]; simp
                unfold St.put
                cases hdst : dst with
                | none => rfl
                | some d =>
                  have hne : d0 ≠ d := (hd d hdst).2 _ hm
                  unfold gslot
                  dsimp only
                  rw [List.getElem?_set_ne (Ne.symm hne)]
              · right; simpa using hq
            rcases hgs with hgs | hgs <;> rw [hgs]
            · simp
          · rfl
      · rfl
  · rfl
end Go.Proofs.Ytgdjfclpncpnpaa.Sym
