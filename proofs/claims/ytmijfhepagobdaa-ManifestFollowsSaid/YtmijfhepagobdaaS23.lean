/- The row of the law ManifestFollows. -/
import Derived.Test.YtmijfhepagobdaaL1
set_option linter.unusedVariables false
namespace Go.Proofs.Ytmijfhepagobdaa.Avm
open Go.ChangeShapes Go.WideShapes Go.ChangeAt Go.RowKit
theorem opLaw : OpensA Try.prog [25, 22, 25] e_manifestFollows fun a => a.1.members.length ≤ maxLen ∧ (a.2.1.length ≤ maxLen ∧ ∀ x ∈ a.2.1, True) ∧ a.2.2.members.length ≤ maxLen := .cons laidOut back25 opMani1 (.cons laidOut back22 opBytes1 (.one laidOut back25 opMani1))
set_option maxRecDepth 100000 in
theorem lifted (os : Os) (started : os.Started) (H : Type) (en : TypeId × Value → H) :
    ReturnsInHanded {} Try.checked os 3 .any (Rows.manifestFollowsSpec.pre6 en Try.prog Try.f3 Rows.manifestFollowsRow.domain false) (Rows.manifestFollowsSpec.post en Try.prog Try.f3 false true false false) :=
  law_lifted (C := Try.checked) own started (by kernel_rfl) Try.func3
    (ChangeSpec.witness6 (enc := en) (C := Try.checked) false ⟨#[], #[.agg #[.string ByteArray.empty, .int .i64 0, .slice none 0 0, .string ByteArray.empty, .slice none 0 0, .int .i64 0, .bool false, .string ByteArray.empty], .slice none 0 0, .agg #[.string ByteArray.empty, .int .i64 0, .slice none 0 0, .string ByteArray.empty, .slice none 0 0, .int .i64 0, .bool false, .string ByteArray.empty]], []⟩ 8 (by kernel_rfl) (by kernel_rfl) (by kernel_rfl) (by kernel_rfl))
    (by kernel_rfl) (by kernel_rfl) hmix law_env opLaw rfl (fun ds h => by
      match ds, h with
      | [a, b, c], _ => rfl) rfl Try.underlying4 fun a h => law_is a ⟨⟨h.1, h.2.2⟩, h.2.1.1⟩
theorem over : Rows.manifestFollowsRow.holds Try.pinned (OpenSpec.ofChange Rows.manifestFollowsSpec) :=
  OpenClaim.holds_of_wide 3 Try.f3 rfl rfl rfl rfl rfl rfl rfl ⟨rfl, rfl, rfl, rfl, rfl⟩ rfl rfl rfl rfl rfl (by kernel_rfl) Try.func3 (by kernel_rfl)
    (of_decide_eq_true (by kernel_rfl)) (by unfold Func.isWrapper; first | (rw [if_pos (by decide +kernel)]; kernel_rfl) | (rw [if_neg (by decide +kernel)]; exact ⟨rfl, rfl⟩))
    (fun os started H enc _ => lifted os started H enc)
end Go.Proofs.Ytmijfhepagobdaa.Avm
namespace Go.Proofs.Ytmijfhepagobdaa
/-- The row, under a short name, for the claim. -/
theorem manifestFollows_holds : Rows.ManifestFollowsSaid := Avm.over
#print axioms manifestFollows_holds
end Go.Proofs.Ytmijfhepagobdaa
