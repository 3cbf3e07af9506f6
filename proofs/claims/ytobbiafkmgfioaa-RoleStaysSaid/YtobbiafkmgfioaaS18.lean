/- The row of the law RoleStays. -/
import Derived.Test.YtobbiafkmgfioaaL0
set_option linter.unusedVariables false
namespace Go.Proofs.Ytobbiafkmgfioaa.Avm
open Go.ChangeShapes Go.WideShapes Go.ChangeAt Go.RowKit
theorem back105 : Back1 Try.prog 105 := ⟨by kernel_rfl, of_decide_eq_true (by kernel_rfl)⟩
theorem opDeed : Opens Try.prog 109 (Rec.c (α := Deed)) (fun _ => True) :=
  (Opens.struct Try.underlying109 (tot := 4) (by kernel_rfl) rfl (.cons (Opens.int Try.underlying3) (off := 1) (by kernel_rfl) (.cons (Opens.str Try.underlying9) (off := 2) (by kernel_rfl) (.cons (Opens.str Try.underlying9) (off := 3) (by kernel_rfl) (.one (Opens.int Try.underlying3) (by kernel_rfl)))))).as (fun p => ⟨p.1, p.2.1, p.2.2.1, p.2.2.2⟩) (fun _ => rfl) (fun _ _ => trivial)
theorem opDeeds : Opens1 Try.prog 105 (fun l : List Deed => enc l) (fun l => l.length ≤ maxLen ∧ ∀ a ∈ l, True) := Opens1.slice Try.underlying105 (Opens.slice Try.underlying105 (by kernel_rfl) opDeed)
theorem opStays : OpensA Try.prog [9, 105] e_roleStays fun a => a.1.length ≤ maxLen ∧ (a.2.length ≤ maxLen ∧ ∀ x ∈ a.2, True) := .cons laidOut back9 opStr (.one laidOut back105 opDeeds)
set_option maxRecDepth 100000 in
theorem lifted11 (os : Os) (started : os.Started) (H : Type) (en : TypeId × Value → H) :
    ReturnsInHanded {} Try.checked os 11 .any (Rows.roleStaysSpec.pre6 en Try.prog Try.f11 Rows.roleStaysRow.domain false) (Rows.roleStaysSpec.post en Try.prog Try.f11 false true false false) :=
  law_lifted (C := Try.checked) own started (by kernel_rfl) Try.func11
    (ChangeSpec.witness6 (enc := en) (C := Try.checked) false ⟨#[], #[.string ByteArray.empty, .slice none 0 0], []⟩ 8 (by kernel_rfl) (by kernel_rfl) (by kernel_rfl) (by kernel_rfl))
    (by kernel_rfl) (by kernel_rfl) hmix A30 opStays rfl (fun ds h => by
      match ds, h with
      | [a, b], _ => rfl) rfl Try.underlying4 fun a h => roleStays_is a ⟨h.1, h.2.1⟩
theorem over11 : Rows.roleStaysRow.holds Try.pinned (OpenSpec.ofChange Rows.roleStaysSpec) :=
  OpenClaim.holds_of_wide 11 Try.f11 rfl rfl rfl rfl rfl rfl rfl ⟨rfl, rfl, rfl, rfl, rfl⟩ rfl rfl rfl rfl rfl (by kernel_rfl) Try.func11 (by kernel_rfl)
    (of_decide_eq_true (by kernel_rfl)) (by unfold Func.isWrapper; first | (rw [if_pos (by decide +kernel)]; kernel_rfl) | (rw [if_neg (by decide +kernel)]; exact ⟨rfl, rfl⟩))
    (fun os started H enc _ => lifted11 os started H enc)
end Go.Proofs.Ytobbiafkmgfioaa.Avm
namespace Go.Proofs.Ytobbiafkmgfioaa
/-- The row, under a short name, for the claim. -/
theorem roleStays_holds : Rows.RoleStaysSaid := Avm.over11
#print axioms roleStays_holds
end Go.Proofs.Ytobbiafkmgfioaa
