/- What the rows of the role laws share: the arguments' shapes. -/
import Derived.Test.YtobbiafkmgfioaaRows
import Derived.Test.YtobbiafkmgfioaaS9
set_option linter.unusedVariables false
namespace Go.Proofs.Ytobbiafkmgfioaa.Avm
open Go.ChangeShapes Go.WideShapes Go.ChangeAt Go.RowKit
theorem own : ownKnob Try.prog.godebug = none := by kernel_rfl
theorem laidOut : laidOutB Try.prog = true := by kernel_rfl
theorem opMem : Opens Try.prog 107 (Rec.c (α := Mem)) (fun _ => True) :=
  (Opens.struct Try.underlying107 (tot := 2) (by kernel_rfl) rfl (.cons (Opens.str Try.underlying9) (off := 1) (by kernel_rfl) (.one (Opens.int Try.underlying3) (by kernel_rfl)))).as (fun p => ⟨p.1, p.2⟩) (fun _ => rfl) (fun _ _ => trivial)
theorem opMems : Opens1 Try.prog 23 (fun l : List Mem => enc l) (fun l => l.length ≤ maxLen ∧ ∀ a ∈ l, True) := Opens1.slice Try.underlying23 (Opens.slice Try.underlying23 (by kernel_rfl) opMem)
theorem opStr : Opens1 Try.prog 9 (fun s : Str => .str s) (fun s => s.length ≤ maxLen) := Opens1.str Try.underlying9
theorem back23 : Back1 Try.prog 23 := ⟨by kernel_rfl, of_decide_eq_true (by kernel_rfl)⟩
theorem back9 : Back1 Try.prog 9 := ⟨by kernel_rfl, of_decide_eq_true (by kernel_rfl)⟩
end Go.Proofs.Ytobbiafkmgfioaa.Avm
