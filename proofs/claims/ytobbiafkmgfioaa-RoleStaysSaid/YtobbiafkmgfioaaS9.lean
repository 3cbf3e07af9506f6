/- The functions that the role laws call: each is what it is told to be. -/
import Derived.Test.YtobbiafkmgfioaaA29
import Derived.Test.YtobbiafkmgfioaaRC
import Derived.Test.YtobbiafkmgfioaaS17
set_option linter.unusedVariables false
set_option maxRecDepth 100000
namespace Go.Proofs.Ytobbiafkmgfioaa.Avm
open Go
theorem hmix : Try.prog.follows .mixedOrders = true := by kernel_rfl
def tab0 : List (Nat × AFunc) := [(107, F107), (37, F37), (38, F38), (130, F130), (131, F131), (108, F108), (66, F66), (75, F75), (114, F114), (132, F132), (109, F109), (65, F65), (135, F135), (113, F113), (112, F112), (110, F110), (152, F152), (133, F133), (161, F161), (134, F134), (111, F111), (115, F115), (62, F62), (63, F63), (64, F64), (116, F116), (73, F73), (67, F67), (106, F106), (61, F61), (71, F71), (72, F72), (68, F68), (74, F74), (69, F69), (60, F60), (59, F59), (10, F10), (70, F70), (9, F9), (11, F11)]
def E0 : Env := ⟨tabF tab0, fun _ => none⟩
theorem tab_ok : TabOK Try.prog tab0 := .cons Try.func107 C107 (.cons Try.func37 C37 (.cons Try.func38 C38 (.cons Try.func130 C130 (.cons Try.func131 C131 (.cons Try.func108 C108 (.cons Try.func66 C66 (.cons Try.func75 C75 (.cons Try.func114 C114 (.cons Try.func132 C132 (.cons Try.func109 C109 (.cons Try.func65 C65 (.cons Try.func135 C135 (.cons Try.func113 C113 (.cons Try.func112 C112 (.cons Try.func110 C110 (.cons Try.func152 C152 (.cons Try.func133 C133 (.cons Try.func161 C161 (.cons Try.func134 C134 (.cons Try.func111 C111 (.cons Try.func115 C115 (.cons Try.func62 C62 (.cons Try.func63 C63 (.cons Try.func64 C64 (.cons Try.func116 C116 (.cons Try.func73 C73 (.cons Try.func67 C67 (.cons Try.func106 C106 (.cons Try.func61 C61 (.cons Try.func71 C71 (.cons Try.func72 C72 (.cons Try.func68 C68 (.cons Try.func74 C74 (.cons Try.func69 C69 (.cons Try.func60 C60 (.cons Try.func59 C59 (.cons Try.func10 C10 (.cons Try.func70 C70 (.cons Try.func9 C9 (.cons Try.func11 C11 (.nil)))))))))))))))))))))))))))))))))))))))))
theorem A0 : AllOK Try.prog E0 := tab_ok.allOK
noncomputable def E1 : Env := E0.add 107 p_is
theorem A1 : AllOK Try.prog E1 := AllOK.addS hmix A0 (Scal.gd fun _ => Scal.bool _) (by apply ok_is <;> rfl)
noncomputable def E2 : Env := E1.add 37 p_name
theorem A2 : AllOK Try.prog E2 := AllOK.addS hmix A1 (Scal.gd fun _ => Scal.bool _) (by apply ok_name <;> rfl)
noncomputable def E3 : Env := E2.add 38 p_nameR
theorem A3 : AllOK Try.prog E3 := AllOK.addS hmix A2 (Scal.gd fun _ => Scal.bool _) (by apply ok_nameR <;> rfl)
noncomputable def E4 : Env := E3.add 108 p_at
theorem A4 : AllOK Try.prog E4 := AllOK.addS hmix A3 (Scal.gd fun _ => Scal.int _ _) (by apply ok_at <;> rfl)
noncomputable def E5 : Env := E4.add 66 p_of
theorem A5 : AllOK Try.prog E5 := AllOK.addS hmix A4 (Scal.gd fun _ => Scal.int _ _) (by apply ok_of <;> rfl)
noncomputable def E6 : Env := E5.add 75 p_with
theorem A6 : AllOK Try.prog E6 := AllOK.addG hmix A5 (by apply ok_with <;> rfl)
noncomputable def E7 : Env := E6.add 114 p_owners
theorem A7 : AllOK Try.prog E7 := AllOK.addS hmix A6 (Scal.gd fun _ => Scal.int _ _) (by apply ok_owners <;> rfl)
noncomputable def E8 : Env := E7.add 132 p_max
theorem A8 : AllOK Try.prog E8 := AllOK.addS hmix A7 (Scal.gd fun _ => Scal.int _ _) (by apply ok_max <;> rfl)
noncomputable def E9 : Env := E8.add 109 p_high
theorem A9 : AllOK Try.prog E9 := AllOK.addS hmix A8 (Scal.gd fun _ => Scal.bool _) (by apply ok_high <;> rfl)
noncomputable def E10 : Env := E9.add 65 p_right
theorem A10 : AllOK Try.prog E10 := AllOK.addS hmix A9 (Scal.gd fun _ => Scal.bool _) (by apply ok_right <;> rfl)
noncomputable def E11 : Env := E10.add 135 p_isNaN
theorem A11 : AllOK Try.prog E11 := AllOK.addS hmix A10 (Scal.gd fun _ => Scal.bool _) (by apply ok_isNaN <;> rfl)
noncomputable def E12 : Env := E11.add 113 p_cmp
theorem A12 : AllOK Try.prog E12 := AllOK.addS hmix A11 (Scal.gd fun _ => Scal.int _ _) (by apply ok_cmp <;> rfl)
noncomputable def E13 : Env := E12.add 112 p_cmpM
theorem A13 : AllOK Try.prog E13 := AllOK.addS hmix A12 (Scal.gd fun _ => Scal.int _ _) (by apply ok_cmpM <;> rfl)
noncomputable def E14 : Env := E13.add 110 p_clone
theorem A14 : AllOK Try.prog E14 := AllOK.addN hmix A13 ((ok_cloneF (m := 1000000) rfl rfl rfl (by decide)))
noncomputable def E15 : Env := E14.add 62 p_share
theorem A15 : AllOK Try.prog E15 := AllOK.addG hmix A14 ((by apply ok_share <;> first | rfl | exact fun x0 l0 id S hS hl => run_sort rfl rfl rfl rfl rfl rfl (fun n hn S => run_len rfl rfl rfl rfl n hn S) rfl x0 l0 id S hS hl))
noncomputable def E16 : Env := E15.add 63 p_change
theorem A16 : AllOK Try.prog E16 := AllOK.addG hmix A15 (by apply ok_change <;> rfl)
noncomputable def E17 : Env := E16.add 64 p_revoke
theorem A17 : AllOK Try.prog E17 := AllOK.addG hmix A16 ((by apply ok_revoke <;> first | rfl | exact fun l i hi hl id S hS => run_delete rfl rfl l i hi hl id S hS))
noncomputable def E18 : Env := E17.add 116 p_differ
theorem A18 : AllOK Try.prog E18 := AllOK.addG hmix A17 (by apply ok_differ <;> rfl)
noncomputable def E19 : Env := E18.add 73 p_step
theorem A19 : AllOK Try.prog E19 := AllOK.addS hmix A18 (Scal.gd fun _ => Scal.tup2 (Scal.bool _) (Scal.int _ _)) (by apply ok_step <;> rfl)
noncomputable def E20 : Env := E19.add 67 p_ofR
theorem A20 : AllOK Try.prog E20 := AllOK.addS hmix A19 (Scal.gd fun _ => Scal.int _ _) (by apply ok_ofR <;> rfl)
noncomputable def E21 : Env := E20.add 106 p_ownersR
theorem A21 : AllOK Try.prog E21 := AllOK.addS hmix A20 (Scal.gd fun _ => Scal.int _ _) (by apply ok_ownersR <;> rfl)
noncomputable def E22 : Env := E21.add 61 p_rightR
theorem A22 : AllOK Try.prog E22 := AllOK.addS hmix A21 (Scal.gd fun _ => Scal.bool _) (by apply ok_rightR <;> rfl)
noncomputable def E23 : Env := E22.add 71 p_shareR
theorem A23 : AllOK Try.prog E23 := AllOK.addS hmix A22 (Scal.gd fun _ => Scal.int _ _) (by apply ok_shareR <;> rfl)
noncomputable def E24 : Env := E23.add 72 p_changeR
theorem A24 : AllOK Try.prog E24 := AllOK.addS hmix A23 (Scal.gd fun _ => Scal.int _ _) (by apply ok_changeR <;> rfl)
noncomputable def E25 : Env := E24.add 68 p_revokeR
theorem A25 : AllOK Try.prog E25 := AllOK.addS hmix A24 (Scal.gd fun _ => Scal.int _ _) (by apply ok_revokeR <;> rfl)
noncomputable def E26 : Env := E25.add 74 p_stepR
theorem A26 : AllOK Try.prog E26 := AllOK.addS hmix A25 (Scal.gd fun _ => Scal.tup2 (Scal.bool _) (Scal.int _ _)) (by apply ok_stepR <;> rfl)
noncomputable def E27 : Env := E26.add 69 p_sameR
theorem A27 : AllOK Try.prog E27 := AllOK.addS hmix A26 (Scal.gd fun _ => Scal.bool _) (by apply ok_sameR <;> rfl)
noncomputable def E28 : Env := E27.add 60 p_few
theorem A28 : AllOK Try.prog E28 := AllOK.addS hmix A27 (Scal.gd fun _ => Scal.bool _) (by apply ok_few <;> rfl)
noncomputable def E29 : Env := E28.add 59 p_awake27
theorem A29 : AllOK Try.prog E29 := AllOK.addS hmix A28 (Scal.gd fun _ => Scal.bool _) (by apply ok_awake27 <;> rfl)
theorem roleStep_is (a : List Mem × List Mem × Str) (h : k_roleStep a) : ∃ S1, Is E29 10 (e_roleStep a) [] (.bool true) S1 :=
  have k : OkS E29 10 e_roleStep (gd k_roleStep r_roleStep) := by apply ok_roleStep <;> rfl
  k a _ (gd_eq h)
noncomputable def E30 : Env := E29.add 70 p_withR
theorem A30 : AllOK Try.prog E30 := AllOK.addG hmix A29 (by apply ok_withR <;> rfl)
theorem roleCalls_is (a : List Mem × Str × Str × Int) (h : k_roleCalls a) : ∃ S1, Is E30 9 (e_roleCalls a) [] (.bool true) S1 :=
  have k : OkS E30 9 e_roleCalls (gd k_roleCalls r_roleCalls) := by apply ok_roleCalls <;> rfl
  k a _ (gd_eq h)
theorem roleStays_is (a : Str × List Deed) (h : k_roleStays a) : ∃ S1, Is E30 11 (e_roleStays a) [] (.bool true) S1 :=
  have k : OkS E30 11 e_roleStays (gd k_roleStays r_roleStays) := by apply ok_roleStays <;> rfl
  k a _ (gd_eq h)
end Go.Proofs.Ytobbiafkmgfioaa.Avm
