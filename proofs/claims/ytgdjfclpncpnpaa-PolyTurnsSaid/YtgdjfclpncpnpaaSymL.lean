/-
  OWN WORK. A symbolic executor for Go text over open terms, part L: the table of contracts.
-/
import Derived.Test.YtgdjfclpncpnpaaSymK
namespace Go.Proofs.Ytgdjfclpncpnpaa.Sym
open Go Go.RowKit

abbrev Entry := Nat × (List Value → Option (Value × List Prop))
def tbOf : List Entry → Nat → List Value → Option (Value × List Prop)
  | [], _, _ => none
  | e :: es, K, args => bif Nat.beq e.1 K then e.2 args else tbOf es K args

def EntryOk (P : Program) (e : Entry) : Prop := ∀ args v ps, e.2 args = some (v, ps) → allP ps → CallOk P e.1 args v

theorem tbOf_ok {P : Program} : ∀ {es : List Entry}, (∀ e ∈ es, EntryOk P e) → TbOk P (tbOf es)
  | [], _ => fun K args v ps h => by simp [tbOf] at h
  | e :: es, h => fun K args v ps hv => by
    simp only [tbOf] at hv
    cases hb : Nat.beq e.1 K with
    | true =>
      rw [hb] at hv
      have : e.1 = K := Nat.eq_of_beq_eq_true hb
      subst this
      exact h e (by simp) args v ps hv
    | false =>
      rw [hb] at hv
      exact tbOf_ok (es := es) (fun x hx => h x (by simp [hx])) K args v ps hv

theorem call_ok {P : Program} {K : Nat} {fn : Func} (hf : P.funcs[K]? = some fn) (hb : fn.body.isNone = false) (hn : (fn.name == "runtime.NumGoroutine") = false) {args : List Value} {v : Value}
    (h : ∀ w, Calls P K args.toArray w fun e w' => e = .returned v ∧ Below w.heap.size w w') : CallOk P K args v := by
  intro w
  have hr : (callFunc K args.toArray).run P w = .ok (.enter K args.toArray) w := by
    unfold callFunc
    simp only [Sem.run_bind, run_program, Result.andThen_ok, hf, hn, hb]
    simp
  rw [hr]
  exact ⟨rfl, h w⟩
end Go.Proofs.Ytgdjfclpncpnpaa.Sym
