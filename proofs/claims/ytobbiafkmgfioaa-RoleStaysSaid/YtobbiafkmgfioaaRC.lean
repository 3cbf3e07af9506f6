/- The abstract functions are the seat's. -/
import Derived.Test.YtobbiafkmgfioaaA2
import Derived.Test.YtobbiafkmgfioaaRF
import Derived.Test.YtobbiafkmgfioaaProg
import Derived.KernelRfl
set_option maxRecDepth 100000
namespace Go.Proofs.Ytobbiafkmgfioaa.Avm
open Go
theorem C107 : compF Try.prog [0, 2] Try.f107 = some F107 := by kernel_rfl
theorem C37 : compF Try.prog [0, 2, 3, 4, 6, 7, 8, 26] Try.f37 = some F37 := by kernel_rfl
theorem C38 : compF Try.prog [0, 2, 3, 4, 5, 13, 17, 45] Try.f38 = some F38 := by kernel_rfl
theorem C131 : compF Try.prog [0, 1, 2, 3] Try.f131 = some F131 := by kernel_rfl
theorem C130 : compF Try.prog [0, 1, 4, 5, 7, 8, 9, 16] Try.f130 = some F130 := by kernel_rfl
theorem C108 : compF Try.prog [0, 1, 3, 4] Try.f108 = some F108 := by kernel_rfl
theorem C66 : compF Try.prog [0, 1, 4, 5, 10] Try.f66 = some F66 := by kernel_rfl
theorem C75 : compF Try.prog [0, 1, 4, 5, 7, 8, 9, 10, 11, 17] Try.f75 = some F75 := by kernel_rfl
theorem C114 : compF Try.prog [0, 2] Try.f114 = some F114 := by kernel_rfl
theorem C132 : compF Try.prog [0, 2, 3, 4, 7, 15] Try.f132 = some F132 := by kernel_rfl
theorem C109 : compF Try.prog [0, 1, 2, 6] Try.f109 = some F109 := by kernel_rfl
theorem C65 : compF Try.prog [0, 2, 3, 4, 5, 6, 7, 8, 36] Try.f65 = some F65 := by kernel_rfl
theorem C110 : compF Try.prog [0, 2, 4] Try.f110 = some F110 := by kernel_rfl
theorem C112 : compF Try.prog [0, 1, 2, 3, 4] Try.f112 = some F112 := by kernel_rfl
theorem C113 : compF Try.prog [0, 1, 4, 5, 6, 11, 12, 13, 16, 19] Try.f113 = some F113 := by kernel_rfl
theorem C135 : compF Try.prog [0, 2] Try.f135 = some F135 := by kernel_rfl
theorem C174 : compF Try.prog [0, 1, 4] Try.f174 = some F174 := by kernel_rfl
theorem C111 : compF Try.prog [0, 1, 4] Try.f111 = some F111 := by kernel_rfl
theorem C133 : compF Try.prog [0, 1, 2, 3, 4, 10, 11, 12, 13, 14, 15, 16, 17, 18, 19, 20, 25, 32, 39, 56, 75, 80, 97, 125] Try.f133 = some F133 := by kernel_rfl
theorem C152 : compF Try.prog [0, 1, 2, 3, 8, 9, 14, 34] Try.f152 = some F152 := by kernel_rfl
theorem C134 : compF Try.prog [0, 2] Try.f134 = some F134 := by kernel_rfl
theorem C161 : compF Try.prog [0, 2, 4, 8, 14] Try.f161 = some F161 := by kernel_rfl
theorem C62 : compF Try.prog [0, 1, 2, 3, 8, 9, 10, 11, 25, 30, 35, 41] Try.f62 = some F62 := by kernel_rfl
theorem C63 : compF Try.prog [0, 1, 2, 3, 8, 9, 10, 11, 15, 29, 34, 37, 48] Try.f63 = some F63 := by kernel_rfl
theorem C115 : compF Try.prog [0, 1, 2, 6, 7, 16] Try.f115 = some F115 := by kernel_rfl
theorem C64 : compF Try.prog [0, 1, 2, 6, 7, 8, 12, 21, 31, 34, 49] Try.f64 = some F64 := by kernel_rfl
theorem C116 : compF Try.prog [0, 1, 4, 5, 7, 9, 10, 11, 12, 13, 22, 29, 30, 31, 32, 39] Try.f116 = some F116 := by kernel_rfl
theorem C73 : compF Try.prog [0, 1, 2, 6, 7, 8, 9, 10, 11, 19, 25, 32, 33, 35, 37, 49] Try.f73 = some F73 := by kernel_rfl
theorem C67 : compF Try.prog [0, 1, 4, 5, 9, 18] Try.f67 = some F67 := by kernel_rfl
theorem C106 : compF Try.prog [0, 2, 3, 4, 8, 16] Try.f106 = some F106 := by kernel_rfl
theorem C61 : compF Try.prog [0, 2, 3, 4, 12, 16, 41, 44, 57] Try.f61 = some F61 := by kernel_rfl
theorem C70 : compF Try.prog [0, 1, 2, 6, 7, 8, 9, 15, 28, 41, 50] Try.f70 = some F70 := by kernel_rfl
theorem C71 : compF Try.prog [0, 1, 2, 3, 8, 9, 14, 18, 24, 27] Try.f71 = some F71 := by kernel_rfl
theorem C72 : compF Try.prog [0, 1, 2, 3, 8, 9, 10, 18, 20, 30, 41] Try.f72 = some F72 := by kernel_rfl
theorem C68 : compF Try.prog [0, 1, 2, 6, 7, 8, 21, 23, 34, 41] Try.f68 = some F68 := by kernel_rfl
theorem C69 : compF Try.prog [0, 1, 4, 5, 10, 14, 25] Try.f69 = some F69 := by kernel_rfl
theorem C74 : compF Try.prog [0, 1, 2, 6, 7, 8, 9, 10, 11, 12, 13, 21, 25, 40, 51, 61, 70, 75, 86] Try.f74 = some F74 := by kernel_rfl
theorem C60 : compF Try.prog [0, 2, 4, 5, 6, 7, 8, 14] Try.f60 = some F60 := by kernel_rfl
theorem C59 : compF Try.prog [0, 1, 2] Try.f59 = some F59 := by kernel_rfl
theorem C10 : compF Try.prog [0, 1, 2, 6, 7, 8, 9, 10, 12, 25] Try.f10 = some F10 := by kernel_rfl
theorem C9 : compF Try.prog [0, 1, 2, 4, 6, 7, 8, 9, 10, 11, 12, 13, 14, 15, 16, 17, 18, 19, 21, 38, 76, 83, 132, 138, 188] Try.f9 = some F9 := by kernel_rfl
theorem C11 : compF Try.prog [0, 1, 4, 5, 7, 8, 9, 10, 11, 12, 14, 15, 16, 18, 26, 30, 31, 32, 33, 45, 47, 57, 70, 84, 87, 113, 132, 133, 134, 135, 136, 152, 183, 1000029] Try.f11 = some F11 := by kernel_rfl
end Go.Proofs.Ytobbiafkmgfioaa.Avm
