/- The row of the law RoleCalls. -/
import Derived.Test.YtobbiafkmgfioaaL0
import Derived.Test.YtobbiafkmgfioaaA30
set_option linter.unusedVariables false
namespace Go.Proofs.Ytobbiafkmgfioaa.Avm
open Go.ChangeShapes Go.WideShapes Go.ChangeAt Go.RowKit
theorem back89 : Back1 Try.prog 89 := ⟨by kernel_rfl, of_decide_eq_true (by kernel_rfl)⟩
theorem back3 : Back1 Try.prog 3 := ⟨by kernel_rfl, of_decide_eq_true (by kernel_rfl)⟩
theorem opPair : Opens1 Try.prog 89 (fun p : Str × Str => .agg [.str p.1, .str p.2]) (fun _ => True) :=
  Opens1.array Try.underlying89 ((Opens.array2 Try.underlying89 (by kernel_rfl) (Opens.str Try.underlying9)).imp (fun _ => rfl) fun _ _ => trivial)
theorem opCalls : OpensA Try.prog [23, 89, 3] e_roleCalls k_roleCalls :=
  (OpensA.cons laidOut back23 opMems (.cons laidOut back89 opPair (.one laidOut back3 (Opens1.int Try.underlying3)))).as (fun x => (x.1, x.2.1.1, x.2.1.2, x.2.2)) (fun _ => rfl) (fun _ h => h.1.1)
set_option maxRecDepth 100000 in
theorem lifted9 (os : Os) (started : os.Started) (H : Type) (en : TypeId × Value → H) :
    ReturnsInHanded {} Try.checked os 9 .any (Rows.roleCallsSpec.pre6 en Try.prog Try.f9 Rows.roleCallsRow.domain false) (Rows.roleCallsSpec.post en Try.prog Try.f9 false true false false) :=
  law_lifted (C := Try.checked) own started (by kernel_rfl) Try.func9
    (ChangeSpec.witness6 (enc := en) (C := Try.checked) false ⟨#[], #[.slice none 0 0, .agg #[.string ByteArray.empty, .string ByteArray.empty], .int .i64 0], []⟩ 8 (by kernel_rfl) (by kernel_rfl) (by kernel_rfl) (by kernel_rfl))
    (by kernel_rfl) (by kernel_rfl) hmix A30 opCalls rfl (fun ds h => by
      match ds, h with
      | [a, b, c], _ => rfl) rfl Try.underlying4 fun a h => roleCalls_is a h
theorem over9 : Rows.roleCallsRow.holds Try.pinned (OpenSpec.ofChange Rows.roleCallsSpec) :=
  OpenClaim.holds_of_wide 9 Try.f9 rfl rfl rfl rfl rfl rfl rfl ⟨rfl, rfl, rfl, rfl, rfl⟩ rfl rfl rfl rfl rfl (by kernel_rfl) Try.func9 (by kernel_rfl)
    (of_decide_eq_true (by kernel_rfl)) (by unfold Func.isWrapper; first | (rw [if_pos (by decide +kernel)]; kernel_rfl) | (rw [if_neg (by decide +kernel)]; exact ⟨rfl, rfl⟩))
    (fun os started H enc _ => lifted9 os started H enc)
end Go.Proofs.Ytobbiafkmgfioaa.Avm
namespace Go.Proofs.Ytobbiafkmgfioaa
/-- The row, under a short name, for the claim. -/
theorem roleCalls_holds : Rows.RoleCallsSaid := Avm.over9
#print axioms roleCalls_holds
end Go.Proofs.Ytobbiafkmgfioaa
