/- The row of the law RoleStep. -/
import Derived.Test.YtobbiafkmgfioaaRows
import Derived.Test.YtobbiafkmgfioaaS9
set_option linter.unusedVariables false
namespace Go.Proofs.Ytobbiafkmgfioaa.Avm
open Go.ChangeShapes Go.WideShapes Go.ChangeAt Go.RowKit
theorem own : ownKnob Try.prog.godebug = none := by kernel_rfl
theorem laidOut : laidOutB Try.prog = true := by kernel_rfl
theorem opMem : Opens Try.prog 107 (Rec.c (α := Mem)) (fun _ => True) :=
  (Opens.struct Try.underlying107 (tot := 2) (by kernel_rfl) rfl (.cons (Opens.str Try.underlying9) (off := 1) (by kernel_rfl) (.one (Opens.int Try.underlying3) (by kernel_rfl)))).as (fun p => ⟨p.1, p.2⟩) (fun _ => rfl) (fun _ _ => trivial)
theorem opMems : Opens1 Try.prog 23 (fun l : List Mem => enc l) (fun l => l.length ≤ maxLen ∧ ∀ a ∈ l, True) := Opens1.slice Try.underlying23 (Opens.slice Try.underlying23 (by kernel_rfl) opMem)
theorem opStr : Opens1 Try.prog 9 (fun s : Str => .str s) (fun s => s.length ≤ maxLen) := Opens1.str Try.underlying9
theorem back23 : Back1 Try.prog 23 := ⟨by kernel_rfl, of_decide_eq_true (by kernel_rfl)⟩
theorem back9 : Back1 Try.prog 9 := ⟨by kernel_rfl, of_decide_eq_true (by kernel_rfl)⟩
theorem opStep : OpensA Try.prog [23, 23, 9] e_roleStep fun a => (a.1.length ≤ maxLen ∧ ∀ x ∈ a.1, True) ∧ (a.2.1.length ≤ maxLen ∧ ∀ x ∈ a.2.1, True) ∧ a.2.2.length ≤ maxLen := .cons laidOut back23 opMems (.cons laidOut back23 opMems (.one laidOut back9 opStr))
set_option maxRecDepth 100000 in
theorem lifted (os : Os) (started : os.Started) (H : Type) (en : TypeId × Value → H) :
    ReturnsInHanded {} Try.checked os 10 .any (Rows.roleStepSpec.pre6 en Try.prog Try.f10 Rows.roleStepRow.domain false) (Rows.roleStepSpec.post en Try.prog Try.f10 false true false false) :=
  law_lifted (C := Try.checked) own started (by kernel_rfl) Try.func10
    (ChangeSpec.witness6 (enc := en) (C := Try.checked) false ⟨#[], #[.slice none 0 0, .slice none 0 0, .string ByteArray.empty], []⟩ 8 (by kernel_rfl) (by kernel_rfl) (by kernel_rfl) (by kernel_rfl))
    (by kernel_rfl) (by kernel_rfl) hmix A29 opStep rfl (fun ds h => by
      match ds, h with
      | [a, b, c], _ => rfl) rfl Try.underlying4 fun a h => roleStep_is a ⟨h.1.1, h.2.1.1⟩
theorem over : Rows.roleStepRow.holds Try.pinned (OpenSpec.ofChange Rows.roleStepSpec) :=
  OpenClaim.holds_of_wide 10 Try.f10 rfl rfl rfl rfl rfl rfl rfl ⟨rfl, rfl, rfl, rfl, rfl⟩ rfl rfl rfl rfl rfl (by kernel_rfl) Try.func10 (by kernel_rfl)
    (of_decide_eq_true (by kernel_rfl)) (by unfold Func.isWrapper; first | (rw [if_pos (by decide +kernel)]; kernel_rfl) | (rw [if_neg (by decide +kernel)]; exact ⟨rfl, rfl⟩))
    (fun os started H enc _ => lifted os started H enc)
end Go.Proofs.Ytobbiafkmgfioaa.Avm
namespace Go.Proofs.Ytobbiafkmgfioaa
/-- The row, under a short name, for the claim. -/
theorem roleStep_holds : Rows.RoleStepSaid := Avm.over
#print axioms roleStep_holds
end Go.Proofs.Ytobbiafkmgfioaa
