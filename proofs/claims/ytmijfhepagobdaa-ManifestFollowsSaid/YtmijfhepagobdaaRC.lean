/- The abstract functions are the seat's. -/
import Derived.Test.YtmijfhepagobdaaA2
import Derived.Test.YtmijfhepagobdaaRF
import Derived.Test.YtmijfhepagobdaaProg
import Derived.KernelRfl
set_option maxRecDepth 100000
namespace Go.Proofs.Ytmijfhepagobdaa.Avm
open Go
theorem C3 : compF Try.prog [0, 1, 2, 3, 5, 6, 8, 21] Try.f3 = some F3 := by kernel_rfl
theorem C4 : compF Try.prog [0, 1, 2, 3] Try.f4 = some F4 := by kernel_rfl
theorem C5 : compF Try.prog [0, 1, 2, 4, 6, 7, 8, 9, 15] Try.f5 = some F5 := by kernel_rfl
theorem C6 : compF Try.prog [0, 1, 2, 3, 5, 6, 7, 8, 9, 15, 24, 49, 67, 72, 86, 101, 105] Try.f6 = some F6 := by kernel_rfl
theorem C7 : compF Try.prog [0, 1, 2, 3, 5, 6, 7, 8, 9, 17, 41, 50, 54, 79, 85, 97, 117] Try.f7 = some F7 := by kernel_rfl
theorem C8 : compF Try.prog [0, 1, 2, 3, 7] Try.f8 = some F8 := by kernel_rfl
theorem C9 : compF Try.prog [0, 1, 2, 5, 27] Try.f9 = some F9 := by kernel_rfl
theorem C10 : compF Try.prog [0, 1, 2, 3, 4, 6, 9, 12, 13, 14, 15] Try.f10 = some F10 := by kernel_rfl
theorem C11 : compF Try.prog [0, 1, 4, 5, 10, 14, 25] Try.f11 = some F11 := by kernel_rfl
theorem C12 : compF Try.prog [0, 1, 2, 3, 4, 5, 10, 34] Try.f12 = some F12 := by kernel_rfl
theorem C13 : compF Try.prog [0, 1, 4, 5, 10, 12, 13, 14, 24] Try.f13 = some F13 := by kernel_rfl
theorem C14 : compF Try.prog [0, 1, 2, 3, 24, 39] Try.f14 = some F14 := by kernel_rfl
theorem C15 : compF Try.prog [0, 1, 4] Try.f15 = some F15 := by kernel_rfl
theorem C16 : compF Try.prog [0, 1, 2, 4, 9] Try.f16 = some F16 := by kernel_rfl
theorem C17 : compF Try.prog [0, 1, 2, 6, 7, 8, 9, 10, 11, 19, 25, 32, 33, 35, 37, 49] Try.f17 = some F17 := by kernel_rfl
theorem C18 : compF Try.prog [0, 1, 2, 18, 38, 64] Try.f18 = some F18 := by kernel_rfl
theorem C19 : compF Try.prog [0, 1, 4, 5, 10, 14, 25] Try.f19 = some F19 := by kernel_rfl
theorem C20 : compF Try.prog [0, 1, 4, 5, 9, 18] Try.f20 = some F20 := by kernel_rfl
theorem C21 : compF Try.prog [0, 1, 2, 6, 7, 8, 9, 10, 11, 12, 13, 21, 25, 40, 51, 61, 70, 75, 86] Try.f21 = some F21 := by kernel_rfl
theorem C22 : compF Try.prog [0, 2] Try.f22 = some F22 := by kernel_rfl
theorem C23 : compF Try.prog [0, 2] Try.f23 = some F23 := by kernel_rfl
theorem C24 : compF Try.prog [0, 2] Try.f24 = some F24 := by kernel_rfl
theorem C25 : compF Try.prog [0, 1, 2, 3, 5, 12] Try.f25 = some F25 := by kernel_rfl
theorem C26 : compF Try.prog [0, 2] Try.f26 = some F26 := by kernel_rfl
theorem C27 : compF Try.prog [0, 2, 3] Try.f27 = some F27 := by kernel_rfl
theorem C28 : compF Try.prog [0, 2] Try.f28 = some F28 := by kernel_rfl
theorem C29 : compF Try.prog [0, 2] Try.f29 = some F29 := by kernel_rfl
theorem C30 : compF Try.prog [0, 2] Try.f30 = some F30 := by kernel_rfl
theorem C31 : compF Try.prog [0, 1, 2, 3, 4, 5, 6, 8, 10, 11, 13, 14, 17, 21, 30, 44, 75] Try.f31 = some F31 := by kernel_rfl
theorem C32 : compF Try.prog [0, 2, 3, 4, 6, 7, 8, 26] Try.f32 = some F32 := by kernel_rfl
theorem C33 : compF Try.prog [0, 2, 3, 4, 5, 6, 7, 8, 36] Try.f33 = some F33 := by kernel_rfl
theorem C34 : compF Try.prog [0, 1, 4, 5, 10] Try.f34 = some F34 := by kernel_rfl
theorem C35 : compF Try.prog [0, 1, 4, 5, 7, 9, 10, 11, 12, 13, 22, 29, 30, 31, 32, 39] Try.f35 = some F35 := by kernel_rfl
theorem C36 : compF Try.prog [0, 1, 2, 6, 7, 8, 12, 21, 31, 34, 49] Try.f36 = some F36 := by kernel_rfl
theorem C37 : compF Try.prog [0, 1, 3, 4] Try.f37 = some F37 := by kernel_rfl
theorem C38 : compF Try.prog [0, 1, 2, 3, 8, 9, 10, 11, 25, 30, 35, 41] Try.f38 = some F38 := by kernel_rfl
theorem C39 : compF Try.prog [0, 1, 2, 3, 8, 9, 10, 11, 15, 29, 34, 37, 48] Try.f39 = some F39 := by kernel_rfl
theorem C40 : compF Try.prog [0, 2, 3, 4, 5, 13, 17, 45] Try.f40 = some F40 := by kernel_rfl
theorem C41 : compF Try.prog [0, 2, 3, 4, 12, 16, 41, 44, 57] Try.f41 = some F41 := by kernel_rfl
theorem C42 : compF Try.prog [0, 1, 2, 6, 7, 8, 21, 23, 34, 41] Try.f42 = some F42 := by kernel_rfl
theorem C43 : compF Try.prog [0, 1, 2, 3, 8, 9, 14, 18, 24, 27] Try.f43 = some F43 := by kernel_rfl
theorem C44 : compF Try.prog [0, 1, 2, 3, 8, 9, 10, 18, 20, 30, 41] Try.f44 = some F44 := by kernel_rfl
theorem C45 : compF Try.prog [0, 1, 2, 3, 4, 5, 16] Try.f45 = some F45 := by kernel_rfl
theorem C46 : compF Try.prog [0, 1, 3, 4, 5, 6, 8, 11, 13, 14, 27, 57, 58, 59, 60] Try.f46 = some F46 := by kernel_rfl
theorem C47 : compF Try.prog [0, 1, 4, 5, 6, 7] Try.f47 = some F47 := by kernel_rfl
theorem C48 : compF Try.prog [0, 2] Try.f48 = some F48 := by kernel_rfl
theorem C49 : compF Try.prog [0, 2] Try.f49 = some F49 := by kernel_rfl
theorem C50 : compF Try.prog [0, 1, 2, 6] Try.f50 = some F50 := by kernel_rfl
theorem C51 : compF Try.prog [0, 1, 2, 6, 7, 16] Try.f51 = some F51 := by kernel_rfl
theorem C52 : compF Try.prog [0, 2, 4] Try.f52 = some F52 := by kernel_rfl
theorem C53 : compF Try.prog [0, 1, 4, 5, 7, 8, 9, 16] Try.f53 = some F53 := by kernel_rfl
theorem C54 : compF Try.prog [0, 1, 2, 3] Try.f54 = some F54 := by kernel_rfl
theorem C55 : compF Try.prog [0, 1, 4] Try.f55 = some F55 := by kernel_rfl
theorem C56 : compF Try.prog [0, 1, 2, 3, 4] Try.f56 = some F56 := by kernel_rfl
theorem C57 : compF Try.prog [0, 1, 4, 5, 6, 11, 12, 13, 16, 19] Try.f57 = some F57 := by kernel_rfl
theorem C58 : compF Try.prog [0, 2, 3, 4, 8, 16] Try.f58 = some F58 := by kernel_rfl
theorem C59 : compF Try.prog [0, 1, 2, 3, 6, 7, 8, 10, 11, 12, 23, 25, 26, 33, 40, 42, 43, 44, 45, 59] Try.f59 = some F59 := by kernel_rfl
theorem C60 : compF Try.prog [0, 2, 3, 18] Try.f60 = some F60 := by kernel_rfl
theorem C61 : compF Try.prog [0, 1, 4, 5, 6, 7] Try.f61 = some F61 := by kernel_rfl
theorem C62 : compF Try.prog [0, 1, 4, 5, 6, 7, 21, 24, 36] Try.f62 = some F62 := by kernel_rfl
theorem C63 : compF Try.prog [0, 2, 3, 4, 9] Try.f63 = some F63 := by kernel_rfl
theorem C64 : compF Try.prog [0, 1, 4, 5, 7, 8, 9, 10, 11, 17] Try.f64 = some F64 := by kernel_rfl
theorem C65 : compF Try.prog [0, 2, 3, 4, 7, 15] Try.f65 = some F65 := by kernel_rfl
theorem C66 : compF Try.prog [0, 1, 2, 3, 4, 10, 11, 12, 13, 14, 15, 16, 17, 18, 19, 20, 25, 32, 39, 56, 75, 80, 97, 125] Try.f66 = some F66 := by kernel_rfl
theorem C67 : compF Try.prog [0, 2] Try.f67 = some F67 := by kernel_rfl
theorem C68 : compF Try.prog [0, 2] Try.f68 = some F68 := by kernel_rfl
theorem C69 : compF Try.prog [0, 1, 2, 3, 4, 5, 18, 19, 29, 35] Try.f69 = some F69 := by kernel_rfl
theorem C70 : compF Try.prog [0, 1, 4, 5, 6, 7, 33, 37, 38, 39] Try.f70 = some F70 := by kernel_rfl
theorem C71 : compF Try.prog [0, 2, 3] Try.f71 = some F71 := by kernel_rfl
theorem C72 : compF Try.prog [0, 1, 2, 3, 8, 9, 14, 34] Try.f72 = some F72 := by kernel_rfl
theorem C73 : compF Try.prog [0, 1, 2, 3, 8, 9, 10, 11, 12, 21, 33] Try.f73 = some F73 := by kernel_rfl
theorem C74 : compF Try.prog [0, 1, 2, 8, 9, 10, 11, 12, 17, 35, 45] Try.f74 = some F74 := by kernel_rfl
theorem C75 : compF Try.prog [0, 1, 2, 3, 8, 9, 10, 11, 12, 13, 14, 34, 36, 55, 57, 60] Try.f75 = some F75 := by kernel_rfl
theorem C76 : compF Try.prog [0, 1, 2, 8, 9, 15] Try.f76 = some F76 := by kernel_rfl
theorem C77 : compF Try.prog [0, 1, 2, 3, 8, 9, 10, 11, 12, 16, 36, 41, 45, 65, 69, 84, 104, 109, 124] Try.f77 = some F77 := by kernel_rfl
theorem C78 : compF Try.prog [0, 1, 2, 3, 4, 10, 11, 12, 47, 65, 70] Try.f78 = some F78 := by kernel_rfl
theorem C79 : compF Try.prog [0, 1, 2, 3, 4, 10, 11, 12, 13, 47, 66, 71, 120, 139, 144] Try.f79 = some F79 := by kernel_rfl
theorem C80 : compF Try.prog [0, 2, 4, 8] Try.f80 = some F80 := by kernel_rfl
theorem C81 : compF Try.prog [0, 2, 4, 8, 14] Try.f81 = some F81 := by kernel_rfl
theorem C82 : compF Try.prog [0, 2, 4] Try.f82 = some F82 := by kernel_rfl
theorem C83 : compF Try.prog [0, 2, 3, 9] Try.f83 = some F83 := by kernel_rfl
theorem C84 : compF Try.prog [0, 1, 2, 3, 4, 10, 11, 18, 40, 58] Try.f84 = some F84 := by kernel_rfl
theorem C85 : compF Try.prog [0, 2] Try.f85 = some F85 := by kernel_rfl
theorem C86 : compF Try.prog [0, 2] Try.f86 = some F86 := by kernel_rfl
theorem C87 : compF Try.prog [0, 1, 2, 3, 8] Try.f87 = some F87 := by kernel_rfl
theorem C88 : compF Try.prog [0, 1, 2, 3, 4, 5, 12] Try.f88 = some F88 := by kernel_rfl
theorem C89 : compF Try.prog [0, 1, 2, 3, 4, 10, 11, 22] Try.f89 = some F89 := by kernel_rfl
end Go.Proofs.Ytmijfhepagobdaa.Avm
