/- The functions that the law ManifestFollows calls: each is what it is told to be. -/
import Derived.Test.YtmijfhepagobdaaR22
set_option linter.unusedVariables false
set_option maxRecDepth 100000
namespace Go.Proofs.Ytmijfhepagobdaa.Avm
open Go
noncomputable def E1 : Env := E0.add 4 p_awake28
theorem A1 : AllOK Try.prog E1 := AllOK.addRun hmix A0 (Scal.gd fun _ => Scal.bool _) (awake_is)
noncomputable def E2 : Env := E1.add 48 p_is
theorem A2 : AllOK Try.prog E2 := AllOK.addS hmix A1 (Scal.gd fun _ => Scal.bool _) (by apply ok_is <;> rfl)
noncomputable def E3 : Env := E2.add 32 p_name
theorem A3 : AllOK Try.prog E3 := AllOK.addS hmix A2 (Scal.gd fun _ => Scal.bool _) (by apply ok_name <;> rfl)
noncomputable def E4 : Env := E3.add 40 p_nameR
theorem A4 : AllOK Try.prog E4 := AllOK.addS hmix A3 (Scal.gd fun _ => Scal.bool _) (by apply ok_nameR <;> rfl)
noncomputable def E5 : Env := E4.add 37 p_at
theorem A5 : AllOK Try.prog E5 := AllOK.addS hmix A4 (Scal.gd fun _ => Scal.int _ _) (by apply ok_at <;> rfl)
noncomputable def E6 : Env := E5.add 34 p_of
theorem A6 : AllOK Try.prog E6 := AllOK.addS hmix A5 (Scal.gd fun _ => Scal.int _ _) (by apply ok_of <;> rfl)
noncomputable def E7 : Env := E6.add 64 p_with
theorem A7 : AllOK Try.prog E7 := AllOK.addG hmix A6 (by apply ok_with <;> rfl)
noncomputable def E8 : Env := E7.add 49 p_owners
theorem A8 : AllOK Try.prog E8 := AllOK.addS hmix A7 (Scal.gd fun _ => Scal.int _ _) (by apply ok_owners <;> rfl)
noncomputable def E9 : Env := E8.add 65 p_max
theorem A9 : AllOK Try.prog E9 := AllOK.addS hmix A8 (Scal.gd fun _ => Scal.int _ _) (by apply ok_max <;> rfl)
noncomputable def E10 : Env := E9.add 50 p_high
theorem A10 : AllOK Try.prog E10 := AllOK.addS hmix A9 (Scal.gd fun _ => Scal.bool _) (by apply ok_high <;> rfl)
noncomputable def E11 : Env := E10.add 33 p_right
theorem A11 : AllOK Try.prog E11 := AllOK.addS hmix A10 (Scal.gd fun _ => Scal.bool _) (by apply ok_right <;> rfl)
noncomputable def E12 : Env := E11.add 68 p_isNaN
theorem A12 : AllOK Try.prog E12 := AllOK.addS hmix A11 (Scal.gd fun _ => Scal.bool _) (by apply ok_isNaN <;> rfl)
noncomputable def E13 : Env := E12.add 57 p_cmp
theorem A13 : AllOK Try.prog E13 := AllOK.addS hmix A12 (Scal.gd fun _ => Scal.int _ _) (by apply ok_cmp <;> rfl)
noncomputable def E14 : Env := E13.add 56 p_cmpM
theorem A14 : AllOK Try.prog E14 := AllOK.addS hmix A13 (Scal.gd fun _ => Scal.int _ _) (by apply ok_cmpM <;> rfl)
noncomputable def E15 : Env := E14.add 52 p_clone
theorem A15 : AllOK Try.prog E15 := AllOK.addN hmix A14 ((ok_cloneF (m := 1000000) rfl rfl rfl (by decide)))
noncomputable def E16 : Env := E15.add 38 p_share
theorem A16 : AllOK Try.prog E16 := AllOK.addG hmix A15 ((by apply ok_share <;> first | rfl | exact fun x0 l0 id S hS hl => run_sort rfl rfl rfl rfl rfl rfl (fun n hn S => run_len rfl rfl rfl rfl n hn S) rfl x0 l0 id S hS hl))
noncomputable def E17 : Env := E16.add 39 p_change
theorem A17 : AllOK Try.prog E17 := AllOK.addG hmix A16 (by apply ok_change <;> rfl)
noncomputable def E18 : Env := E17.add 36 p_revoke
theorem A18 : AllOK Try.prog E18 := AllOK.addG hmix A17 ((by apply ok_revoke <;> first | rfl | exact fun l i hi hl id S hS => run_delete rfl rfl l i hi hl id S hS))
noncomputable def E19 : Env := E18.add 35 p_differ
theorem A19 : AllOK Try.prog E19 := AllOK.addG hmix A18 (by apply ok_differ <;> rfl)
noncomputable def E20 : Env := E19.add 17 p_step
theorem A20 : AllOK Try.prog E20 := AllOK.addS hmix A19 (Scal.gd fun _ => Scal.tup2 (Scal.bool _) (Scal.int _ _)) (by apply ok_step <;> rfl)
noncomputable def E21 : Env := E20.add 20 p_ofR
theorem A21 : AllOK Try.prog E21 := AllOK.addS hmix A20 (Scal.gd fun _ => Scal.int _ _) (by apply ok_ofR <;> rfl)
noncomputable def E22 : Env := E21.add 58 p_ownersR
theorem A22 : AllOK Try.prog E22 := AllOK.addS hmix A21 (Scal.gd fun _ => Scal.int _ _) (by apply ok_ownersR <;> rfl)
noncomputable def E23 : Env := E22.add 41 p_rightR
theorem A23 : AllOK Try.prog E23 := AllOK.addS hmix A22 (Scal.gd fun _ => Scal.bool _) (by apply ok_rightR <;> rfl)
noncomputable def E24 : Env := E23.add 43 p_shareR
theorem A24 : AllOK Try.prog E24 := AllOK.addS hmix A23 (Scal.gd fun _ => Scal.int _ _) (by apply ok_shareR <;> rfl)
noncomputable def E25 : Env := E24.add 44 p_changeR
theorem A25 : AllOK Try.prog E25 := AllOK.addS hmix A24 (Scal.gd fun _ => Scal.int _ _) (by apply ok_changeR <;> rfl)
noncomputable def E26 : Env := E25.add 42 p_revokeR
theorem A26 : AllOK Try.prog E26 := AllOK.addS hmix A25 (Scal.gd fun _ => Scal.int _ _) (by apply ok_revokeR <;> rfl)
noncomputable def E27 : Env := E26.add 21 p_stepR
theorem A27 : AllOK Try.prog E27 := AllOK.addS hmix A26 (Scal.gd fun _ => Scal.tup2 (Scal.bool _) (Scal.int _ _)) (by apply ok_stepR <;> rfl)
noncomputable def E28 : Env := E27.add 19 p_sameR
theorem A28 : AllOK Try.prog E28 := AllOK.addS hmix A27 (Scal.gd fun _ => Scal.bool _) (by apply ok_sameR <;> rfl)
noncomputable def E29 : Env := E28.add 11 p_bsame
theorem A29 : AllOK Try.prog E29 := AllOK.addS hmix A28 (Scal.gd fun _ => Scal.bool _) (by apply ok_bsame <;> rfl)
noncomputable def E30 : Env := E29.add 14 p_may
theorem A30 : AllOK Try.prog E30 := AllOK.addS hmix A29 (Scal.gd fun _ => Scal.bool _) (by apply ok_may <;> rfl)
noncomputable def E31 : Env := E30.add 18 p_mayR
theorem A31 : AllOK Try.prog E31 := AllOK.addS hmix A30 (Scal.gd fun _ => Scal.bool _) (by apply ok_mayR <;> rfl)
noncomputable def E32 : Env := E31.add 13 p_eqMem
theorem A32 : AllOK Try.prog E32 := AllOK.addS hmix A31 (Scal.gd fun _ => Scal.bool _) (by apply ok_eqMem <;> rfl)
noncomputable def E33 : Env := E32.add 15 p_beq
theorem A33 : AllOK Try.prog E33 := AllOK.addS hmix A32 (Scal.gd fun _ => Scal.bool _) (by apply ok_beq <;> rfl)
noncomputable def E34 : Env := E33.add 16 p_owner
theorem A34 : AllOK Try.prog E34 := AllOK.addS hmix A33 (Scal.gd fun _ => Scal.int _ _) (by apply ok_owner <;> rfl)
noncomputable def E35 : Env := E34.add 6 p_follows
theorem A35 : AllOK Try.prog E35 := AllOK.addS hmix A34 (Scal.gd fun _ => Scal.int _ _) (by apply ok_follows <;> rfl)
noncomputable def E36 : Env := E35.add 7 p_followsR
theorem A36 : AllOK Try.prog E36 := AllOK.addS hmix A35 (Scal.gd fun _ => Scal.int _ _) (by apply ok_followsR <;> rfl)
noncomputable def E37 : Env := E36.add 8 p_begins
theorem A37 : AllOK Try.prog E37 := AllOK.addS hmix A36 (Scal.gd fun _ => Scal.int _ _) (by apply ok_begins <;> rfl)
noncomputable def E38 : Env := E37.add 9 p_beginsR
theorem A38 : AllOK Try.prog E38 := AllOK.addS hmix A37 (Scal.gd fun _ => Scal.int _ _) (by apply ok_beginsR <;> rfl)
noncomputable def E39 : Env := E38.add 5 p_fewM
theorem A39 : AllOK Try.prog E39 := AllOK.addS hmix A38 (Scal.gd fun _ => Scal.bool _) (by apply ok_fewM <;> rfl)
theorem law_is (a : Mani × List UInt8 × Mani) (h : k_manifestFollows a) : ∃ S1, Is E39 3 (e_manifestFollows a) [] (.bool true) S1 :=
  have k : OkS E39 3 e_manifestFollows (gd k_manifestFollows r_manifestFollows) := by apply ok_law28 <;> rfl
  k a _ (gd_eq h)
theorem law_env : AllOK Try.prog E39 := A39
end Go.Proofs.Ytmijfhepagobdaa.Avm
