/- The functions that the law ManifestFollows calls, and its example. -/
import Derived.Test.YtmijfhepagobdaaA30
import Derived.Test.YtmijfhepagobdaaRC
import Derived.Test.YtmijfhepagobdaaS21
set_option linter.unusedVariables false
set_option maxRecDepth 100000
namespace Go.Proofs.Ytmijfhepagobdaa.Avm
open Go
theorem hmix : Try.prog.follows .mixedOrders = true := by kernel_rfl
def tab0 : List (Nat × AFunc) := [(3, F3), (4, F4), (5, F5), (6, F6), (7, F7), (8, F8), (9, F9), (10, F10), (11, F11), (12, F12), (13, F13), (14, F14), (15, F15), (16, F16), (17, F17), (18, F18), (19, F19), (20, F20), (21, F21), (22, F22), (23, F23), (24, F24), (25, F25), (26, F26), (27, F27), (28, F28), (29, F29), (30, F30), (31, F31), (32, F32), (33, F33), (34, F34), (35, F35), (36, F36), (37, F37), (38, F38), (39, F39), (40, F40), (41, F41), (42, F42), (43, F43), (44, F44), (45, F45), (46, F46), (47, F47), (48, F48), (49, F49), (50, F50), (51, F51), (52, F52), (53, F53), (54, F54), (55, F55), (56, F56), (57, F57), (58, F58), (59, F59), (60, F60), (61, F61), (62, F62), (63, F63), (64, F64), (65, F65), (66, F66), (67, F67), (68, F68), (69, F69), (70, F70), (71, F71), (72, F72), (81, F81), (82, F82), (83, F83)]
def E0 : Env := ⟨tabF tab0, fun _ => none⟩
theorem tab_ok : TabOK Try.prog tab0 := .cons Try.func3 C3 (.cons Try.func4 C4 (.cons Try.func5 C5 (.cons Try.func6 C6 (.cons Try.func7 C7 (.cons Try.func8 C8 (.cons Try.func9 C9 (.cons Try.func10 C10 (.cons Try.func11 C11 (.cons Try.func12 C12 (.cons Try.func13 C13 (.cons Try.func14 C14 (.cons Try.func15 C15 (.cons Try.func16 C16 (.cons Try.func17 C17 (.cons Try.func18 C18 (.cons Try.func19 C19 (.cons Try.func20 C20 (.cons Try.func21 C21 (.cons Try.func22 C22 (.cons Try.func23 C23 (.cons Try.func24 C24 (.cons Try.func25 C25 (.cons Try.func26 C26 (.cons Try.func27 C27 (.cons Try.func28 C28 (.cons Try.func29 C29 (.cons Try.func30 C30 (.cons Try.func31 C31 (.cons Try.func32 C32 (.cons Try.func33 C33 (.cons Try.func34 C34 (.cons Try.func35 C35 (.cons Try.func36 C36 (.cons Try.func37 C37 (.cons Try.func38 C38 (.cons Try.func39 C39 (.cons Try.func40 C40 (.cons Try.func41 C41 (.cons Try.func42 C42 (.cons Try.func43 C43 (.cons Try.func44 C44 (.cons Try.func45 C45 (.cons Try.func46 C46 (.cons Try.func47 C47 (.cons Try.func48 C48 (.cons Try.func49 C49 (.cons Try.func50 C50 (.cons Try.func51 C51 (.cons Try.func52 C52 (.cons Try.func53 C53 (.cons Try.func54 C54 (.cons Try.func55 C55 (.cons Try.func56 C56 (.cons Try.func57 C57 (.cons Try.func58 C58 (.cons Try.func59 C59 (.cons Try.func60 C60 (.cons Try.func61 C61 (.cons Try.func62 C62 (.cons Try.func63 C63 (.cons Try.func64 C64 (.cons Try.func65 C65 (.cons Try.func66 C66 (.cons Try.func67 C67 (.cons Try.func68 C68 (.cons Try.func69 C69 (.cons Try.func70 C70 (.cons Try.func71 C71 (.cons Try.func72 C72 (.cons Try.func81 C81 (.cons Try.func82 C82 (.cons Try.func83 C83 (.nil)))))))))))))))))))))))))))))))))))))))))))))))))))))))))))))))))))))))))
theorem A0 : AllOK Try.prog E0 := tab_ok.allOK
theorem awake_run : (run E0 80 4 [] []).map (·.1) = some (.bool true) := by kernel_rfl
theorem awake_is (a : Unit) (v : AV) (h : gd k_awake28 r_awake28 a = some v) : ∃ N S1, run E0 N 4 (e_awake28 a) [] = some (v, S1) := by
  obtain ⟨_, rfl⟩ := gd_inv h
  obtain ⟨p, h1, h2⟩ := Option.map_eq_some_iff.1 awake_run
  exact ⟨80, p.2, by rw [show e_awake28 a = [] from rfl, h1]; exact congrArg some (Prod.ext h2 rfl)⟩
end Go.Proofs.Ytmijfhepagobdaa.Avm
