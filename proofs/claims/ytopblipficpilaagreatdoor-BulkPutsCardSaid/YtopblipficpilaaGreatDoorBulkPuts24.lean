/- No function of the program starts a goroutine. -/
import Derived.Test.YtopblipficpilaaGreatDoorRows
import Derived.KernelRfl
import Derived.SevenTiedAt
namespace Go.Proofs.YtopblipficpilaaGreatDoor.AY
open Go Go.Proofs
set_option maxRecDepth 100000
theorem noGoes : Tryz.prog.funcs.any Func.goes = false := by kernel_rfl
theorem goes_false {P : Program} (h : P.funcs.any Func.goes = false) (f : FuncId) : P.goes f = false := by
  have key : ∀ g : Nat, (P.funcs[g]?).any Func.goes = false := fun g => by
    cases hg : P.funcs[g]? with
    | none => rfl
    | some fn =>
      rw [Option.any_some]
      cases hf : fn.goes with
      | false => rfl
      | true =>
        obtain ⟨hi, he⟩ := Array.getElem?_eq_some_iff.1 hg
        have : P.funcs.any Func.goes = true := Array.any_eq_true.2 ⟨g, hi, by rw [he]; exact hf⟩
        rw [h] at this; cases this
  unfold Program.goes
  rw [h, Bool.and_false, Bool.or_false]
  exact List.any_eq_false.2 fun g _ => by rw [key g]; simp
end Go.Proofs.YtopblipficpilaaGreatDoor.AY
