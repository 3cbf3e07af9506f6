/- The arguments' shapes of the manifest laws. -/
import Derived.Test.YtmijfhepagobdaaRows
import Derived.Test.YtmijfhepagobdaaS22
set_option linter.unusedVariables false
namespace Go.Proofs.Ytmijfhepagobdaa.Avm
open Go.ChangeShapes Go.WideShapes Go.ChangeAt Go.RowKit
theorem own : ownKnob Try.prog.godebug = none := by kernel_rfl
theorem laidOut : laidOutB Try.prog = true := by kernel_rfl
theorem opMem : Opens Try.prog 35 (Rec.c (α := Mem)) (fun _ => True) :=
  (Opens.struct Try.underlying35 (tot := 2) (by kernel_rfl) rfl (.cons (Opens.str Try.underlying9) (off := 1) (by kernel_rfl) (.one (Opens.int Try.underlying3) (by kernel_rfl)))).as (fun p => ⟨p.1, p.2⟩) (fun _ => rfl) (fun _ _ => trivial)
theorem opByte : Opens Try.prog 5 (Rec.c (α := UInt8)) (fun _ => True) :=
  (Opens.int Try.underlying5).byte
theorem opMems : Opens Try.prog 23 (fun l : List Mem => [enc l]) (fun l => l.length ≤ maxLen ∧ ∀ a ∈ l, True) := Opens.slice Try.underlying23 (by kernel_rfl) opMem
theorem opBytes : Opens Try.prog 22 (fun l : List UInt8 => [enc l]) (fun l => l.length ≤ maxLen ∧ ∀ a ∈ l, True) := Opens.slice Try.underlying22 (by kernel_rfl) opByte
theorem opMani : Opens Try.prog 25 maniL (fun m => m.members.length ≤ maxLen) :=
  (Opens.struct Try.underlying25 (tot := 8) (by kernel_rfl) rfl (.cons (Opens.str Try.underlying9) (off := 1) (by kernel_rfl) (.cons (Opens.int Try.underlying3) (off := 2) (by kernel_rfl) (.cons opBytes (off := 3) (by kernel_rfl) (.cons (Opens.str Try.underlying9) (off := 4) (by kernel_rfl)
    (.cons opMems (off := 5) (by kernel_rfl) (.cons (Opens.int Try.underlying3) (off := 6) (by kernel_rfl) (.cons (Opens.bool Try.underlying4) (off := 7) (by kernel_rfl) (.one (Opens.str Try.underlying9) (by kernel_rfl)))))))))).as
    (fun p => ⟨p.1, p.2.1, p.2.2.1, p.2.2.2.1, p.2.2.2.2.1, p.2.2.2.2.2.1, p.2.2.2.2.2.2.1, p.2.2.2.2.2.2.2⟩) (fun _ => rfl) (fun _ h => h.2.2.2.2.1.1)
theorem back25 : Back1 Try.prog 25 := ⟨by kernel_rfl, of_decide_eq_true (by kernel_rfl)⟩
theorem back22 : Back1 Try.prog 22 := ⟨by kernel_rfl, of_decide_eq_true (by kernel_rfl)⟩
theorem opMani1 : Opens1 Try.prog 25 (fun m : Mani => .agg (maniL m)) (fun m => m.members.length ≤ maxLen) := Opens1.struct Try.underlying25 opMani
theorem opBytes1 : Opens1 Try.prog 22 (fun l : List UInt8 => enc l) (fun l => l.length ≤ maxLen ∧ ∀ a ∈ l, True) := Opens1.slice Try.underlying22 opBytes
end Go.Proofs.Ytmijfhepagobdaa.Avm
