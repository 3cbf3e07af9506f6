/- The abstract functions are the seat's. Data of the seat: members, names. Specs: roles, names. Specs: names, searches, right lists. What sharing, changing and revoking answer. Specs: sorting in place, taking out. Specs: members taken out, shared, changed. Specs: sharing, changing, revoking. What the steps and the document's functions answer. Specs: steps; the document's functions on roles. Specs: steps, and the law of steps. Specs: the document's steps, and the law of steps. Manifests: what their functions answer. Specs: manifests. -/
import Derived.Test.YtaajlbbooneiiaaZ2
import Derived.Test.YtaajlbbooneiiaaZ8
import Derived.Test.YtaajlbbooneiiaaProg
import Derived.KernelRfl
import Derived.Test.YtaajlbbooneiiaaZ6
set_option maxRecDepth 100000
namespace Go.Proofs.Ytaajlbbooneiiaa.Avm
open Go
theorem C3 : compF Try.prog [0, 1, 2, 3, 4, 5, 6, 8, 11, 19] Try.f3 = some F3 := by kernel_rfl
theorem C4 : compF Try.prog [0, 2, 3, 4, 5, 6, 7, 8, 9, 10, 11, 12, 13, 14, 16, 19, 38, 40, 53] Try.f4 = some F4 := by kernel_rfl
theorem C5 : compF Try.prog [0, 1, 2, 3] Try.f5 = some F5 := by kernel_rfl
theorem C6 : compF Try.prog [0, 1, 2, 4, 6, 7, 8, 9, 15] Try.f6 = some F6 := by kernel_rfl
theorem C7 : compF Try.prog [0, 1, 2, 3, 4, 6, 9, 12, 13, 14, 15] Try.f7 = some F7 := by kernel_rfl
theorem C8 : compF Try.prog [0, 1, 2, 18, 38, 64] Try.f8 = some F8 := by kernel_rfl
theorem C9 : compF Try.prog [0, 1, 2, 3, 7] Try.f9 = some F9 := by kernel_rfl
theorem C10 : compF Try.prog [0, 2, 3, 4, 5, 6, 7, 8, 10, 11, 12, 19, 37, 75, 76, 77, 78, 88, 115] Try.f10 = some F10 := by kernel_rfl
theorem C11 : compF Try.prog [0, 1, 4, 5, 10, 14, 25] Try.f11 = some F11 := by kernel_rfl
theorem C12 : compF Try.prog [0, 1, 2, 3, 4, 5, 10, 34] Try.f12 = some F12 := by kernel_rfl
theorem C13 : compF Try.prog [0, 1, 2, 3, 4] Try.f13 = some F13 := by kernel_rfl
theorem C14 : compF Try.prog [0, 2, 3, 4, 5, 6, 7, 8, 15, 21, 70, 84, 112] Try.f14 = some F14 := by kernel_rfl
theorem C15 : compF Try.prog [0, 2, 3, 4, 5, 6, 7, 14, 23] Try.f15 = some F15 := by kernel_rfl
theorem C16 : compF Try.prog [0, 2, 3, 4, 5, 6, 13, 18] Try.f16 = some F16 := by kernel_rfl
theorem C17 : compF Try.prog [0, 1, 2, 3, 24, 39] Try.f17 = some F17 := by kernel_rfl
theorem C18 : compF Try.prog [0, 2] Try.f18 = some F18 := by kernel_rfl
theorem C19 : compF Try.prog [0, 2] Try.f19 = some F19 := by kernel_rfl
theorem C20 : compF Try.prog [0, 2] Try.f20 = some F20 := by kernel_rfl
theorem C21 : compF Try.prog [0, 1, 2, 3, 5, 12] Try.f21 = some F21 := by kernel_rfl
theorem C22 : compF Try.prog [0, 2] Try.f22 = some F22 := by kernel_rfl
theorem C23 : compF Try.prog [0, 2, 3] Try.f23 = some F23 := by kernel_rfl
theorem C24 : compF Try.prog [0, 2, 3, 4, 5, 13, 17, 45] Try.f24 = some F24 := by kernel_rfl
theorem C25 : compF Try.prog [0, 2, 3, 4, 12, 16, 41, 44, 57] Try.f25 = some F25 := by kernel_rfl
theorem C26 : compF Try.prog [0, 2, 3, 4, 5, 8, 27, 35] Try.f26 = some F26 := by kernel_rfl
theorem C27 : compF Try.prog [0, 1, 2, 4, 5, 6, 7, 18, 19, 20, 21, 22, 26, 27, 29, 38] Try.f27 = some F27 := by kernel_rfl
theorem C28 : compF Try.prog [0, 2] Try.f28 = some F28 := by kernel_rfl
theorem C29 : compF Try.prog [0, 2] Try.f29 = some F29 := by kernel_rfl
theorem C30 : compF Try.prog [0, 2] Try.f30 = some F30 := by kernel_rfl
theorem C31 : compF Try.prog [0, 1, 2, 3, 4, 5, 6, 8, 10, 11, 13, 14, 17, 21, 30, 44, 75] Try.f31 = some F31 := by kernel_rfl
theorem C32 : compF Try.prog [0, 1, 4, 5, 10, 14, 25] Try.f32 = some F32 := by kernel_rfl
theorem C33 : compF Try.prog [0, 2, 3, 4, 5, 6, 9, 18, 24] Try.f33 = some F33 := by kernel_rfl
theorem C34 : compF Try.prog [0, 1, 2, 4, 5, 16, 20, 33] Try.f34 = some F34 := by kernel_rfl
theorem C35 : compF Try.prog [0, 2, 3, 4, 6, 7, 8, 26] Try.f35 = some F35 := by kernel_rfl
theorem C36 : compF Try.prog [0, 2, 3, 4, 5, 6, 7, 8, 36] Try.f36 = some F36 := by kernel_rfl
theorem C37 : compF Try.prog [0, 1, 2, 3, 4, 5, 16] Try.f37 = some F37 := by kernel_rfl
theorem C38 : compF Try.prog [0, 1, 3, 4, 5, 6, 8, 11, 13, 14, 27, 57, 58, 59, 60] Try.f38 = some F38 := by kernel_rfl
theorem C39 : compF Try.prog [0, 2, 3, 4, 8, 16] Try.f39 = some F39 := by kernel_rfl
theorem C40 : compF Try.prog [0, 1, 4, 5, 6, 7, 8, 15, 20, 21, 25, 33, 42, 55] Try.f40 = some F40 := by kernel_rfl
theorem C41 : compF Try.prog [0, 1, 4, 5, 6, 7] Try.f41 = some F41 := by kernel_rfl
theorem C42 : compF Try.prog [0, 1, 2, 6, 7, 8, 9, 10, 11, 12, 13, 15, 17, 18, 19, 20, 21, 25, 35, 39, 49, 56, 59, 80, 88, 93, 111, 124, 130, 148, 153, 166] Try.f42 = some F42 := by kernel_rfl
theorem C43 : compF Try.prog [0, 2] Try.f43 = some F43 := by kernel_rfl
theorem C44 : compF Try.prog [0, 2] Try.f44 = some F44 := by kernel_rfl
theorem C45 : compF Try.prog [0, 1, 2, 3, 6, 7, 8, 10, 11, 12, 23, 25, 26, 33, 40, 42, 43, 44, 45, 59] Try.f45 = some F45 := by kernel_rfl
theorem C46 : compF Try.prog [0, 2, 3, 18] Try.f46 = some F46 := by kernel_rfl
theorem C47 : compF Try.prog [0, 1, 4, 5, 6, 7] Try.f47 = some F47 := by kernel_rfl
theorem C48 : compF Try.prog [0, 1, 4, 5, 19, 27] Try.f48 = some F48 := by kernel_rfl
theorem C49 : compF Try.prog [0, 2, 3, 4, 5, 6, 10, 18, 32] Try.f49 = some F49 := by kernel_rfl
theorem C50 : compF Try.prog [0, 2, 4] Try.f50 = some F50 := by kernel_rfl
theorem C51 : compF Try.prog [0, 1, 4, 5] Try.f51 = some F51 := by kernel_rfl
theorem C52 : compF Try.prog [0, 6] Try.f52 = some F52 := by kernel_rfl
theorem C53 : compF Try.prog [0, 1, 4, 5, 6, 7, 21, 24, 36] Try.f53 = some F53 := by kernel_rfl
theorem C54 : compF Try.prog [0, 2, 3, 4, 9] Try.f54 = some F54 := by kernel_rfl
theorem C55 : compF Try.prog [0, 2, 3, 4, 5, 6, 9, 12, 16, 33] Try.f55 = some F55 := by kernel_rfl
theorem C56 : compF Try.prog [0, 1, 4, 5, 7, 8, 9, 10, 11, 17] Try.f56 = some F56 := by kernel_rfl
theorem C57 : compF Try.prog [0, 1, 2, 3, 4, 5, 18, 19, 29, 35] Try.f57 = some F57 := by kernel_rfl
theorem C58 : compF Try.prog [0, 1, 4, 5, 6, 7, 33, 37, 38, 39] Try.f58 = some F58 := by kernel_rfl
theorem C59 : compF Try.prog [0, 2, 3] Try.f59 = some F59 := by kernel_rfl
theorem C60 : compF Try.prog [0, 2, 3, 4, 6, 7, 11, 15, 16, 17, 18, 28] Try.f60 = some F60 := by kernel_rfl
theorem C61 : compF Try.prog [0, 2, 3, 9] Try.f61 = some F61 := by kernel_rfl
end Go.Proofs.Ytaajlbbooneiiaa.Avm
set_option linter.unusedVariables false
set_option linter.unusedSimpArgs false
namespace Go.Proofs.Ytaajlbbooneiiaa.Avm
abbrev Str := List UInt8

theorem rec_inj {α : Type} [Rec α] {a b : α} : Rec.c a = Rec.c b ↔ a = b := ⟨Rec.inj a b, fun h => by rw [h]⟩

structure Mem where
  name : Str
  role : Int
instance : Rec Mem where
  sz := 2
  c m := [.str m.name, .int .i64 m.role]
  len _ := rfl
  pos := by decide
  inj a b h := by cases a; cases b; simpa using h
  pure _ := rfl
@[go_sem] theorem c_mem (m : Mem) : Rec.c m = [.str m.name, .int .i64 m.role] := rfl
@[go_sem] theorem z_mem : Rec.sz Mem = 2 := rfl
instance : Rec Str where
  sz := 1
  c s := [.str s]
  len _ := rfl
  pos := by decide
  inj a b h := by simpa using h
  pure _ := rfl
@[go_sem] theorem c_Str (s : Str) : Rec.c s = [.str s] := rfl
@[go_sem] theorem z_Str : Rec.sz Str = 1 := rfl
instance : Rec Int where
  sz := 1
  c n := [.int .i64 n]
  len _ := rfl
  pos := by decide
  inj a b h := by simpa using h
  pure _ := rfl
@[go_sem] theorem c_Int (n : Int) : Rec.c n = [.int .i64 n] := rfl
@[go_sem] theorem z_Int : Rec.sz Int = 1 := rfl
instance : Rec UInt8 where
  sz := 1
  c n := [.int .u8 n.toNat]
  len _ := rfl
  pos := by decide
  inj a b h := by simp at h; exact UInt8.toNat_inj.1 (by omega)
  pure _ := rfl
@[go_sem] theorem c_u8 (n : UInt8) : Rec.c n = [.int .u8 n.toNat] := rfl
@[go_sem] theorem z_u8 : Rec.sz UInt8 = 1 := rfl
@[go_sem] theorem csl_i1 (a : Int) : AV.csl [.int .i64 a] 1 = enc [a] := rfl
@[go_sem] theorem csl_i2 (a b : Int) : AV.csl [.int .i64 a, .int .i64 b] 2 = enc [a, b] := rfl
@[go_sem] theorem csl_s1 (a : Str) : AV.csl [.str a] 1 = enc [a] := rfl
@[go_sem] theorem csl_m1 (a : Str) (n : Int) : AV.csl [.str a, .int .i64 n] 1 = enc [Mem.mk a n] := rfl

/-! texts in order -/
theorem bl_irrefl : ∀ a : Str, Op.bytesLess a a = false
  | [] => rfl
  | a :: x => by simp [Op.bytesLess, bl_irrefl x]
theorem bl_trans : ∀ a b c : Str, Op.bytesLess a b = true → Op.bytesLess b c = true → Op.bytesLess a c = true
  | _, [], _, h, _ => by simp [Op.bytesLess] at h
  | _, _ :: _, [], _, h => by simp [Op.bytesLess] at h
  | [], _ :: _, _ :: _, _, _ => rfl
  | a :: x, b :: y, c :: z, h, k => by
    simp only [Op.bytesLess, Bool.or_eq_true, decide_eq_true_eq, Bool.and_eq_true, beq_iff_eq] at h k ⊢
    rcases h with h | ⟨rfl, h⟩ <;> rcases k with k | ⟨rfl, k⟩
    · exact .inl (UInt8.lt_trans h k)
    · exact .inl h
    · exact .inl k
    · exact .inr ⟨rfl, bl_trans x y z h k⟩
theorem bl_tri : ∀ a b : Str, Op.bytesLess a b = false → Op.bytesLess b a = false → a = b
  | [], [], _, _ => rfl
  | [], _ :: _, h, _ => by simp [Op.bytesLess] at h
  | _ :: _, [], _, h => by simp [Op.bytesLess] at h
  | a :: x, b :: y, h, k => by
    simp only [Op.bytesLess, Bool.or_eq_false_iff, decide_eq_false_iff_not, Bool.and_eq_false_iff, beq_eq_false_iff_ne] at h k
    have hab : a = b := UInt8.le_antisymm (UInt8.not_lt.1 k.1) (UInt8.not_lt.1 h.1)
    subst hab
    rw [bl_tri x y (h.2.resolve_left (by simp)) (k.2.resolve_left (by simp))]
theorem bl_asymm {a b : Str} (h : Op.bytesLess a b = true) : Op.bytesLess b a = false := by
  cases k : Op.bytesLess b a with
  | false => rfl
  | true => have := bl_trans a b a h k; rw [bl_irrefl] at this; cases this

/-! what the functions answer -/
def isRole (r : Int) : Bool := decide (1 ≤ r ∧ r ≤ 4)
def nameCh (c : UInt8) : Bool := decide ((97 ≤ c.toNat ∧ c.toNat ≤ 122) ∨ (48 ≤ c.toNat ∧ c.toNat ≤ 57))
def nameOk (s : Str) : Bool := s.all nameCh && decide (1 ≤ s.length ∧ s.length ≤ 12)
def idxP {α : Type} (p : α → Bool) : Nat → List α → Int
  | _, [] => -1
  | i, m :: l => if p m = true then i else idxP p (i + 1) l
def atP (l : List Mem) (name : Str) : Int := idxP (fun m => decide (m.name = name)) 0 l
def ofP : List Mem → Str → Int
  | [], _ => 0
  | m :: l, name => if m.name = name then m.role else ofP l name
def withP (l : List Mem) (least : Int) : List Str := (l.filter fun m => decide (least ≤ m.role)).map (·.name)
def maxP : List Int → Int
  | [] => 0
  | a :: l => l.foldl (fun x y => if y > x then y else x) a
def highP (l : List Mem) (by' : Str) (rs : List Int) : Bool := decide (3 ≤ maxP rs) && decide (ofP l by' < 4)
def ltO : Option Str → Str → Bool
  | none, _ => true
  | some q, n => Op.bytesLess q n
def okFrom : Option Str → List Mem → Bool
  | _, [] => true
  | p, m :: l => nameOk m.name && isRole m.role && ltO p m.name && okFrom (some m.name) l
def ownersP (l : List Mem) : Nat := (withP l 4).length
def rightP (l : List Mem) : Bool := okFrom none l && decide (l.length ≤ 8) && decide (0 < ownersP l)
def cmpS (a b : Str) : Int := if Op.bytesLess a b = true then -1 else if a = b then 0 else 1
def differP (was now : List Mem) : List Str := ((was.filter fun m => decide (ofP now m.name ≠ m.role)).map (·.name)) ++ ((now.filter fun m => decide (ofP was m.name = 0)).map (·.name))

@[ext] structure Mani where
  folder : Str
  seq : Int
  prev : List UInt8
  parent : Str
  members : List Mem
  cut : Int
  gone : Bool
  by' : Str
abbrev maniL (m : Mani) : List AV := [.str m.folder, .int .i64 m.seq, enc m.prev, .str m.parent, enc m.members, .int .i64 m.cut, .bool m.gone, .str m.by']
def e_is : Int → List AV := fun r => [.int .i64 r]
def k_is : Int → Prop := fun r => True
def r_is : Int → AV := fun r => .bool (isRole r)
noncomputable def p_is : List AV → Store → Option (AV × Store) := primS e_is (gd k_is r_is)
theorem i_is : Inj e_is := by
  intro r1 r2 h
  simpa only [e_is, enc_inj, rec_inj, AV.str.injEq, AV.int.injEq, AV.bool.injEq, AV.agg.injEq, AV.ptr.injEq, AV.fn.injEq, List.cons.injEq, and_true, true_and, Prod.mk.injEq] using h
theorem c_is {E : Env} (h : E.prim 43 = some fun _ => p_is) (r : Int) {S : Store} {K : AV → Store → Prop} {d : Dm K} : SpD E 43 [.int .i64 r] S K d = K (.bool (isRole r)) S :=
  callS h i_is (a := r) (by simp only [e_is, rdSL_cons, rdSL_nil, rdS_int, rdS_bool, rdS_str, enc_rdS, rdS_fn0, rdS_csl0, rdS_rec, rdSL_rec, rdS_agg, rdS_tup, Option.bind_some, Option.map_some]) trivial
theorem c_is' {E : Env} (h : E.prim 43 = some fun _ => p_is) {S : Store} {x0 : AV} {r : Int} (h0 : rdS S x0 = some (.int .i64 r)) {K : AV → Store → Prop} {d : Dm K} : SpD E 43 [x0] S K d = K (.bool (isRole r)) S :=
  callS h i_is (a := r) (by simp only [e_is, rdSL, h0, Option.bind_some, Option.map_some]) trivial
def e_name : Str → List AV := fun s => [.str s]
def k_name : Str → Prop := fun s => s.length ≤ 9223372036854775807
def r_name : Str → AV := fun s => .bool (nameOk s)
noncomputable def p_name : List AV → Store → Option (AV × Store) := primS e_name (gd k_name r_name)
theorem i_name : Inj e_name := by
  intro s1 s2 h
  simpa only [e_name, enc_inj, rec_inj, AV.str.injEq, AV.int.injEq, AV.bool.injEq, AV.agg.injEq, AV.ptr.injEq, AV.fn.injEq, List.cons.injEq, and_true, true_and, Prod.mk.injEq] using h
theorem c_name {E : Env} (h : E.prim 35 = some fun _ => p_name) (s : Str) (hk : s.length ≤ 9223372036854775807) {S : Store} {K : AV → Store → Prop} {d : Dm K} : SpD E 35 [.str s] S K d = K (.bool (nameOk s)) S :=
  callS h i_name (a := s) (by simp only [e_name, rdSL_cons, rdSL_nil, rdS_int, rdS_bool, rdS_str, enc_rdS, rdS_fn0, rdS_csl0, rdS_rec, rdSL_rec, rdS_agg, rdS_tup, Option.bind_some, Option.map_some]) hk
theorem c_name' {E : Env} (h : E.prim 35 = some fun _ => p_name) {S : Store} {x0 : AV} {s : Str} (h0 : rdS S x0 = some (.str s)) (hk : s.length ≤ 9223372036854775807) {K : AV → Store → Prop} {d : Dm K} : SpD E 35 [x0] S K d = K (.bool (nameOk s)) S :=
  callS h i_name (a := s) (by simp only [e_name, rdSL, h0, Option.bind_some, Option.map_some]) hk
def e_nameR : Str → List AV := fun s => [.str s]
def k_nameR : Str → Prop := fun s => s.length ≤ 9223372036854775807
def r_nameR : Str → AV := fun s => .bool (nameOk s)
noncomputable def p_nameR : List AV → Store → Option (AV × Store) := primS e_nameR (gd k_nameR r_nameR)
theorem i_nameR : Inj e_nameR := by
  intro s1 s2 h
  simpa only [e_nameR, enc_inj, rec_inj, AV.str.injEq, AV.int.injEq, AV.bool.injEq, AV.agg.injEq, AV.ptr.injEq, AV.fn.injEq, List.cons.injEq, and_true, true_and, Prod.mk.injEq] using h
theorem c_nameR {E : Env} (h : E.prim 24 = some fun _ => p_nameR) (s : Str) (hk : s.length ≤ 9223372036854775807) {S : Store} {K : AV → Store → Prop} {d : Dm K} : SpD E 24 [.str s] S K d = K (.bool (nameOk s)) S :=
  callS h i_nameR (a := s) (by simp only [e_nameR, rdSL_cons, rdSL_nil, rdS_int, rdS_bool, rdS_str, enc_rdS, rdS_fn0, rdS_csl0, rdS_rec, rdSL_rec, rdS_agg, rdS_tup, Option.bind_some, Option.map_some]) hk
theorem c_nameR' {E : Env} (h : E.prim 24 = some fun _ => p_nameR) {S : Store} {x0 : AV} {s : Str} (h0 : rdS S x0 = some (.str s)) (hk : s.length ≤ 9223372036854775807) {K : AV → Store → Prop} {d : Dm K} : SpD E 24 [x0] S K d = K (.bool (nameOk s)) S :=
  callS h i_nameR (a := s) (by simp only [e_nameR, rdSL, h0, Option.bind_some, Option.map_some]) hk
def e_with : (List Mem) × Int → List AV := fun | (l, n) => [enc l, .int .i64 n]
def k_with : (List Mem) × Int → Prop := fun | (l, n) => l.length ≤ 1000000
def r_with : (List Mem) × Int → AV := fun | (l, n) => enc (withP l n)
noncomputable def p_with : List AV → Store → Option (AV × Store) := primG e_with (gd k_with r_with)
theorem i_with : Inj e_with := by
  rintro ⟨l1, n1⟩ ⟨l2, n2⟩ h
  simpa only [e_with, enc_inj, rec_inj, AV.str.injEq, AV.int.injEq, AV.bool.injEq, AV.agg.injEq, AV.ptr.injEq, AV.fn.injEq, List.cons.injEq, and_true, true_and, Prod.mk.injEq] using h
theorem c_with {E : Env} (h : E.prim 56 = some fun _ => p_with) (l : List Mem) (n : Int) (hk : l.length ≤ 1000000) {S : Store} {K : AV → Store → Prop} {d : Dm K} : SpD E 56 [enc l, .int .i64 n] S K d = K (enc (withP l n)) S := by
  have := callG h i_with (a := (l, n)) (S := S) (args := [enc l, .int .i64 n]) (K := K) (d := d) (by simp only [e_with, rdSL_cons, rdSL_nil, rdS_int, rdS_bool, rdS_str, enc_rdS, rdS_fn0, rdS_csl0, rdS_rec, rdSL_rec, rdS_agg, rdS_tup, Option.bind_some, Option.map_some]) hk
  simpa only [r_with, topL_cons, topL_nil, top_int, top_bool, top_str, top_csl, enc_top, top_agg, top_rec, top_fn, List.nil_append, killL_nil] using this
theorem c_with' {E : Env} (h : E.prim 56 = some fun _ => p_with) {S : Store} {x0 x1 : AV} {l : List Mem} {n : Int} (h0 : rdS S x0 = some (enc l)) (h1 : rdS S x1 = some (.int .i64 n)) (hk : l.length ≤ 1000000) {K : AV → Store → Prop} {d : Dm K} : SpD E 56 [x0, x1] S K d = K (enc (withP l n)) (killL (topIdsL [x0, x1]) S) :=
  callG h i_with (a := (l, n)) (by simp only [e_with, rdSL, h0, h1, Option.bind_some, Option.map_some]) hk
def e_owners : List Mem → List AV := fun l => [enc l]
def k_owners : List Mem → Prop := fun l => l.length ≤ 1000000
def r_owners : List Mem → AV := fun l => .int .i64 (ownersP l)
noncomputable def p_owners : List AV → Store → Option (AV × Store) := primS e_owners (gd k_owners r_owners)
theorem i_owners : Inj e_owners := by
  intro l1 l2 h
  simpa only [e_owners, enc_inj, rec_inj, AV.str.injEq, AV.int.injEq, AV.bool.injEq, AV.agg.injEq, AV.ptr.injEq, AV.fn.injEq, List.cons.injEq, and_true, true_and, Prod.mk.injEq] using h
theorem c_owners {E : Env} (h : E.prim 44 = some fun _ => p_owners) (l : List Mem) (hk : l.length ≤ 1000000) {S : Store} {K : AV → Store → Prop} {d : Dm K} : SpD E 44 [enc l] S K d = K (.int .i64 (ownersP l)) S :=
  callS h i_owners (a := l) (by simp only [e_owners, rdSL_cons, rdSL_nil, rdS_int, rdS_bool, rdS_str, enc_rdS, rdS_fn0, rdS_csl0, rdS_rec, rdSL_rec, rdS_agg, rdS_tup, Option.bind_some, Option.map_some]) hk
theorem c_owners' {E : Env} (h : E.prim 44 = some fun _ => p_owners) {S : Store} {x0 : AV} {l : List Mem} (h0 : rdS S x0 = some (enc l)) (hk : l.length ≤ 1000000) {K : AV → Store → Prop} {d : Dm K} : SpD E 44 [x0] S K d = K (.int .i64 (ownersP l)) S :=
  callS h i_owners (a := l) (by simp only [e_owners, rdSL, h0, Option.bind_some, Option.map_some]) hk
def long1 (l : List Mem) : Prop := l.length ≤ 1000000 ∧ ∀ m, m ∈ l → m.name.length ≤ 9223372036854775807
def e_right : List Mem → List AV := fun l => [enc l]
def k_right : List Mem → Prop := fun l => long1 l
def r_right : List Mem → AV := fun l => .bool (rightP l)
noncomputable def p_right : List AV → Store → Option (AV × Store) := primS e_right (gd k_right r_right)
theorem i_right : Inj e_right := by
  intro l1 l2 h
  simpa only [e_right, enc_inj, rec_inj, AV.str.injEq, AV.int.injEq, AV.bool.injEq, AV.agg.injEq, AV.ptr.injEq, AV.fn.injEq, List.cons.injEq, and_true, true_and, Prod.mk.injEq] using h
theorem c_right {E : Env} (h : E.prim 36 = some fun _ => p_right) (l : List Mem) (hk : long1 l) {S : Store} {K : AV → Store → Prop} {d : Dm K} : SpD E 36 [enc l] S K d = K (.bool (rightP l)) S :=
  callS h i_right (a := l) (by simp only [e_right, rdSL_cons, rdSL_nil, rdS_int, rdS_bool, rdS_str, enc_rdS, rdS_fn0, rdS_csl0, rdS_rec, rdSL_rec, rdS_agg, rdS_tup, Option.bind_some, Option.map_some]) hk
theorem c_right' {E : Env} (h : E.prim 36 = some fun _ => p_right) {S : Store} {x0 : AV} {l : List Mem} (h0 : rdS S x0 = some (enc l)) (hk : long1 l) {K : AV → Store → Prop} {d : Dm K} : SpD E 36 [x0] S K d = K (.bool (rightP l)) S :=
  callS h i_right (a := l) (by simp only [e_right, rdSL, h0, Option.bind_some, Option.map_some]) hk
end Go.Proofs.Ytaajlbbooneiiaa.Avm
set_option linter.unusedVariables false
set_option linter.unusedSimpArgs false
namespace Go.Proofs.Ytaajlbbooneiiaa.Avm

theorem ok_is {E : Env} (hp : E.prim 43 = none) (hf : E.F 43 = some F43) : OkS E 43 e_is (gd k_is r_is) := by
  refine OkS.code hp hf (fun _ => rfl) fun r _ => ?_
  simp -dsimp only [go_sem, F43, e_is, r_is]
  (refine cnd_intro (fun h => ?_) (fun h => ?_) <;> (try simp only [decide_eq_true_eq, decide_eq_false_iff_not, Bool.not_eq_true', Bool.not_eq_false', Bool.and_eq_true, Bool.or_eq_true, Bool.and_eq_false_iff, Bool.or_eq_false_iff, beq_iff_eq, beq_eq_false_iff_ne, ne_eq, Bool.not_eq_true, Bool.not_eq_false] at h) <;> simp -dsimp only [go_sem, *, F43])
  · simp only [r_is, isRole, h, true_and]
  · simp only [r_is, isRole, h, false_and, decide_false]

theorem idx_range {α : Type} (p : α → Bool) : ∀ (l : List α) (i : Nat), (idxP p i l = -1 ∧ ∀ m, m ∈ l → p m = false) ∨ ∃ j : Nat, ∃ h : j < l.length, idxP p i l = (i + j : Nat) ∧ p l[j] = true ∧ ∀ k, (hk : k < j) → p (l[k]'(by omega)) = false
  | [], i => .inl ⟨rfl, by simp⟩
  | m :: l, i => by
    by_cases h : p m = true
    · exact .inr ⟨0, by simp, by simp [idxP, h], by simpa using h, by simp⟩
    · have h : p m = false := by simpa using h
      rcases idx_range p l (i + 1) with ⟨h1, h2⟩ | ⟨j, h1, h2, h3, h4⟩
      · refine .inl ⟨by simp [idxP, h, h1], fun m' hm => ?_⟩
        cases hm with
        | head => exact h
        | tail _ hm => exact h2 m' hm
      · refine .inr ⟨j + 1, by simp; omega, by simp [idxP, h, h2]; omega, by simpa using h3, fun k hk => ?_⟩
        cases k with
        | zero => exact h
        | succ k => simpa using h4 k (by omega)
theorem of_none : ∀ (l : List Mem) (n : Str), (∀ m, m ∈ l → decide (m.name = n) = false) → ofP l n = 0
  | [], n, _ => rfl
  | m :: l, n, h => by
    have h1 := h m (.head _)
    simp only [decide_eq_false_iff_not] at h1
    simp only [ofP, h1, if_false]; exact of_none l n fun m' hm => h m' (.tail _ hm)
theorem of_some : ∀ (l : List Mem) (n : Str) (j : Nat) (h : j < l.length), l[j].name = n → (∀ k, (hk : k < j) → decide ((l[k]'(by omega)).name = n) = false) → ofP l n = l[j].role
  | m :: l, n, 0, h, h1, _ => by simp only [List.getElem_cons_zero] at h1; simp [ofP, h1]
  | m :: l, n, j + 1, h, h1, h2 => by
    have := h2 0 (by omega)
    simp only [List.getElem_cons_zero, decide_eq_false_iff_not] at this
    simp only [ofP, this, if_false, List.getElem_cons_succ]
    exact of_some l n j (by simpa using h) (by simpa using h1) fun k hk => by simpa using h2 (k + 1) (by omega)
theorem atP_spec (l : List Mem) (name : Str) : (atP l name = -1 ∧ ofP l name = 0 ∧ ∀ m, m ∈ l → m.name ≠ name) ∨ ∃ j : Nat, ∃ h : j < l.length, atP l name = j ∧ ofP l name = l[j].role ∧ l[j].name = name ∧ ∀ k, (hk : k < j) → (l[k]'(by omega)).name ≠ name := by
  rcases idx_range (fun m : Mem => decide (m.name = name)) l 0 with ⟨h1, h2⟩ | ⟨j, h1, h2, h3, h4⟩
  · exact .inl ⟨h1, of_none l name h2, fun m hm => by simpa using h2 m hm⟩
  · have h3 : l[j].name = name := by simpa using h3
    exact .inr ⟨j, h1, by simpa [atP] using h2, of_some l name j h1 h3 h4, h3, fun k hk => by simpa using h4 k hk⟩

theorem withP_succ {l : List Mem} {i : Nat} (hi : i < l.length) (n : Int) : withP (l.take (i + 1)) n = if n ≤ l[i].role then withP (l.take i) n ++ [l[i].name] else withP (l.take i) n := by
  rw [List.take_succ_eq_append_getElem hi]
  simp only [withP, List.filter_append, List.map_append]
  split <;> simp_all [List.filter_cons]
theorem withP_len (l : List Mem) (n : Int) : (withP l n).length ≤ l.length := by
  simp only [withP, List.length_map]; exact List.length_filter_le _ _

theorem ok_with {E : Env} (hp : E.prim 56 = none) (hf : E.F 56 = some F56) : OkG E 56 e_with (gd k_with r_with) := by
  refine OkG.code hp hf (fun _ => rfl) fun ⟨l, n⟩ S hk => ?_
  have hk : l.length ≤ 1000000 := hk
  simp -dsimp only [go_sem, F56, e_with, r_with]
  refine Ex.range (n := l.length) (fun i g T => g 8 = enc l ∧ g 1 = .int .i64 n ∧ OwnL S T (g 5) (withP (l.take i) n)) (by decide) (by omega) rfl rfl ⟨rfl, rfl, OwnL.nil List.prefix_rfl⟩ ?_ ?_
  · rintro i g T hi gi gn ⟨g8, g1, hO⟩
    simp -dsimp only [go_sem, gi, gn, g8, g1, ia_enc .i64 hi, ld_enc, c_mem]
    have ht := withP_succ hi n
    refine cnd_intro (fun h => ?_) (fun h => ?_) <;> simp only [decide_eq_true_eq, decide_eq_false_iff_not] at h
    · simp -dsimp only [go_sem, gi, gn, g8, g1]
      refine OwnL.app (hO.more _) rfl (el_enc _ rfl) ?_ fun x T' hO' hK _ => ?_
      · have := withP_len (l.take i) n
        have : (l.take i).length ≤ l.length := List.length_take_le' _ _
        simp only [List.length_singleton]; omega
      · simp -dsimp only [go_sem, gi, gn, g8, g1]
        rw [ht, if_pos h]; exact hO'
    · simp -dsimp only [go_sem, gi, gn, g8, g1]
      rw [ht, if_neg h]; exact hO.more _
  · rintro g T gi ⟨g8, g1, hO⟩
    simp -dsimp only [go_sem, F56, r_with]
    rw [List.take_length] at hO
    exact hO.conv

theorem ok_owners {E : Env} (hp : E.prim 44 = none) (hf : E.F 44 = some F44) (h1 : E.prim 56 = some fun _ => p_with) : OkS E 44 e_owners (gd k_owners r_owners) := by
  refine OkS.code hp hf (fun _ => rfl) fun l hk => ?_
  simp -dsimp only [go_sem, F44, e_owners, r_owners, c_with h1 l 4 hk, ownersP]

end Go.Proofs.Ytaajlbbooneiiaa.Avm
set_option linter.unusedVariables false
set_option linter.unusedSimpArgs false
namespace Go.Proofs.Ytaajlbbooneiiaa.Avm

theorem take_all {α : Type} {p : α → Bool} {l : List α} {i : Nat} (hi : i < l.length) (h : (l.take i).all p = true) (hp : p l[i] = true) : (l.take (i + 1)).all p = true := by
  rw [List.take_succ_eq_append_getElem hi, List.all_append, h]; simp [hp]
theorem all_bad {α : Type} {p : α → Bool} {l : List α} {i : Nat} (hi : i < l.length) (hp : p l[i] = false) : l.all p = false := by
  rw [List.all_eq_false]; exact ⟨_, List.getElem_mem hi, by simp [hp]⟩

theorem ok_name {E : Env} (hp : E.prim 35 = none) (hf : E.F 35 = some F35) : OkS E 35 e_name (gd k_name r_name) := by
  refine OkS.code hp hf (fun _ => rfl) fun s hk => ?_
  have hk : s.length ≤ 9223372036854775807 := hk
  simp -dsimp only [go_sem, F35, e_name]
  refine Ex.range (n := s.length) (fun i g T => g 0 = .str s ∧ (s.take i).all nameCh = true) (by decide) (by omega) rfl rfl ⟨rfl, rfl⟩ ?_ ?_
  · rintro i g T hi gi gn ⟨g0, hA⟩
    have hg := sidx_at .i64 (List.getElem?_eq_getElem hi)
    simp -dsimp only [go_sem, gi, gn, g0, hg]
    iterate 4 (all_goals try (refine cnd_intro (fun h => ?_) (fun h => ?_) <;> (try simp only [decide_eq_true_eq, decide_eq_false_iff_not, Bool.not_eq_true', Bool.not_eq_false', Bool.and_eq_true, Bool.or_eq_true, Bool.and_eq_false_iff, Bool.or_eq_false_iff, beq_iff_eq, beq_eq_false_iff_ne, ne_eq, Bool.not_eq_true, Bool.not_eq_false] at h) <;> simp -dsimp only [go_sem, *, gi, gn, g0, F35, r_name]))
    all_goals first
      | (refine congrArg AV.bool ?_; simp only [nameOk, all_bad hi (show nameCh s[i] = false by simp only [nameCh, decide_eq_false_iff_not]; omega), Bool.false_and])
      | exact take_all hi hA (by simp only [nameCh, decide_eq_true_eq]; omega)
  · rintro g T gi ⟨g0, hA⟩
    rw [List.take_length] at hA
    simp -dsimp only [go_sem, g0, F35, r_name]
    (refine cnd_intro (fun h => ?_) (fun h => ?_) <;> (try simp only [decide_eq_true_eq, decide_eq_false_iff_not, Bool.not_eq_true', Bool.not_eq_false', Bool.and_eq_true, Bool.or_eq_true, Bool.and_eq_false_iff, Bool.or_eq_false_iff, beq_iff_eq, beq_eq_false_iff_ne, ne_eq, Bool.not_eq_true, Bool.not_eq_false] at h) <;> simp -dsimp only [go_sem, *, g0, F35, r_name, nameOk])
    all_goals
      refine congrArg AV.bool ?_
      simp only [nameOk, hA, Bool.true_and]
      first
        | exact (decide_eq_false (by omega)).symm
        | exact decide_eq_decide.2 (by omega)

theorem ok_nameR {E : Env} (hp : E.prim 24 = none) (hf : E.F 24 = some F24) : OkS E 24 e_nameR (gd k_nameR r_nameR) := by
  refine OkS.code hp hf (fun _ => rfl) fun s hk => ?_
  have hk : s.length ≤ 9223372036854775807 := hk
  simp -dsimp only [go_sem, F24, e_nameR]
  iterate 3 (all_goals try (refine cnd_intro (fun h => ?_) (fun h => ?_) <;> (try simp only [decide_eq_true_eq, decide_eq_false_iff_not, Bool.not_eq_true', Bool.not_eq_false', Bool.and_eq_true, Bool.or_eq_true, Bool.and_eq_false_iff, Bool.or_eq_false_iff, beq_iff_eq, beq_eq_false_iff_ne, ne_eq, Bool.not_eq_true, Bool.not_eq_false] at h) <;> simp -dsimp only [go_sem, *, F24, r_nameR]))
  all_goals first
    | (refine congrArg AV.bool ?_; simp only [nameOk, show decide (1 ≤ s.length ∧ s.length ≤ 12) = false from decide_eq_false (by omega), Bool.and_false]; done)
    | skip
  refine Ex.count (n := s.length) (i0 := 0) (fun i g T => g 0 = .str s ∧ (s.take i).all nameCh = true) (by decide) (by omega) rfl (by omega) ⟨rfl, rfl⟩ ?_ ?_ ?_
  · rintro i g T hi gi ⟨g0, hA⟩
    simp -dsimp only [go_sem, gi, g0]
  · rintro i g T hi gi ⟨g0, hA⟩
    have hg := sidx_at .i64 (List.getElem?_eq_getElem hi)
    simp -dsimp only [go_sem, gi, g0, hg]
    iterate 5 (all_goals try (refine cnd_intro (fun h => ?_) (fun h => ?_) <;> (try simp only [decide_eq_true_eq, decide_eq_false_iff_not, Bool.not_eq_true', Bool.not_eq_false', Bool.and_eq_true, Bool.or_eq_true, Bool.and_eq_false_iff, Bool.or_eq_false_iff, beq_iff_eq, beq_eq_false_iff_ne, ne_eq, Bool.not_eq_true, Bool.not_eq_false] at h) <;> simp -dsimp only [go_sem, *, gi, g0, F24, r_nameR]))
    all_goals first
      | (refine congrArg AV.bool ?_; simp only [nameOk, all_bad hi (show nameCh s[i] = false by simp only [nameCh, decide_eq_false_iff_not]; omega), Bool.false_and]; done)
      | exact take_all hi hA (by simp only [nameCh, decide_eq_true_eq]; omega)
  · rintro g T gi ⟨g0, hA⟩
    rw [List.take_length] at hA
    simp -dsimp only [go_sem, g0, F24, r_nameR]
    refine congrArg AV.bool ?_
    simp only [nameOk, hA, Bool.true_and]
    exact (decide_eq_true (by omega)).symm

/-! right lists -/
theorem okFrom_iff : ∀ (p : Option Str) (l : List Mem), okFrom p l = true ↔ (∀ m, m ∈ l → nameOk m.name = true ∧ isRole m.role = true) ∧ (l.map (·.name)).Pairwise (fun a b => Op.bytesLess a b = true) ∧ ∀ q, p = some q → ∀ m, m ∈ l → Op.bytesLess q m.name = true
  | p, [] => by simp [okFrom]
  | p, m :: l => by
    have ih := okFrom_iff (some m.name) l
    simp only [okFrom, Bool.and_eq_true, ih, List.map_cons, List.pairwise_cons, List.mem_cons, forall_eq_or_imp, List.mem_map, forall_exists_index, and_imp, forall_apply_eq_imp_iff₂, Option.some.injEq, forall_eq']
    constructor
    · rintro ⟨⟨⟨h1, h2⟩, h3⟩, h4, h5, h6⟩
      refine ⟨⟨⟨h1, h2⟩, h4⟩, ⟨h6, h5⟩, fun q hq => ?_⟩
      subst hq
      exact ⟨h3, fun m' hm => bl_trans _ _ _ h3 (h6 m' hm)⟩
    · rintro ⟨⟨⟨h1, h2⟩, h4⟩, ⟨h6, h5⟩, h7⟩
      refine ⟨⟨⟨h1, h2⟩, ?_⟩, h4, h5, h6⟩
      cases p with
      | none => rfl
      | some q => exact (h7 q rfl).1

theorem okFrom_take : ∀ (p : Option Str) (l : List Mem) (i : Nat) (h : i < l.length), okFrom p (l.take (i + 1)) = (okFrom p (l.take i) && (nameOk l[i].name && isRole l[i].role && ltO (if i = 0 then p else some (l[i - 1]'(by omega)).name) l[i].name))
  | p, m :: l, 0, h => by simp [okFrom]
  | p, m :: l, i + 1, h => by
    have := okFrom_take (some m.name) l i (by simpa using h)
    simp only [List.take_succ_cons, okFrom, this, List.getElem_cons_succ, Nat.add_one_ne_zero, if_false, Nat.add_sub_cancel]
    cases i with
    | zero => simp [Bool.and_assoc]
    | succ i => simp [Bool.and_assoc]
theorem okFrom_mono (p : Option Str) (l : List Mem) (i : Nat) (h : okFrom p (l.take i) = false) : okFrom p l = false := by
  cases hh : okFrom p l with
  | false => rfl
  | true =>
    rw [okFrom_iff] at hh
    have : okFrom p (l.take i) = true := (okFrom_iff p _).2 ⟨fun m hm => hh.1 m (List.mem_of_mem_take hm), by rw [List.map_take]; exact hh.2.1.sublist (List.take_sublist _ _), fun q hq m hm => hh.2.2 q hq m (List.mem_of_mem_take hm)⟩
    rw [this] at h; cases h

theorem ok_right {E : Env} (hp : E.prim 36 = none) (hf : E.F 36 = some F36) (h1 : E.prim 35 = some fun _ => p_name) (h2 : E.prim 43 = some fun _ => p_is) (h3 : E.prim 44 = some fun _ => p_owners) :
    OkS E 36 e_right (gd k_right r_right) := by
  refine OkS.code hp hf (fun _ => rfl) fun l ⟨hk, hn⟩ => ?_
  simp -dsimp only [go_sem, F36, e_right]
  refine Ex.range (n := l.length) (fun i g T => g 0 = enc l ∧ g 5 = enc l ∧ okFrom none (l.take i) = true) (by decide) (by omega) rfl rfl ⟨rfl, rfl, rfl⟩ ?_ ?_
  · rintro i g T hi gi gn ⟨g0, g5, hI⟩
    have hs := okFrom_take none l i hi
    rw [hI, Bool.true_and] at hs
    have bad : okFrom none (l.take (i + 1)) = false → AV.bool false = AV.bool (rightP l) := fun h => by rw [rightP, okFrom_mono none l _ h]; rfl
    simp -dsimp only [go_sem, gi, gn, g0, g5, ia_enc .i64 hi, ld_enc, c_mem, c_name h1 l[i].name (hn _ (List.getElem_mem hi))]
    (refine cnd_intro (fun h => ?_) (fun h => ?_) <;> (try simp only [decide_eq_true_eq, decide_eq_false_iff_not, Bool.not_eq_true', Bool.not_eq_false', Bool.and_eq_true, Bool.or_eq_true, Bool.and_eq_false_iff, Bool.or_eq_false_iff, beq_iff_eq, beq_eq_false_iff_ne, ne_eq, Bool.not_eq_true, Bool.not_eq_false] at h) <;> simp -dsimp only [go_sem, *, gi, gn, g0, g5, c_is h2])
    · have e1 := h
      (refine cnd_intro (fun h => ?_) (fun h => ?_) <;> (try simp only [decide_eq_true_eq, decide_eq_false_iff_not, Bool.not_eq_true', Bool.not_eq_false', Bool.and_eq_true, Bool.or_eq_true, Bool.and_eq_false_iff, Bool.or_eq_false_iff, beq_iff_eq, beq_eq_false_iff_ne, ne_eq, Bool.not_eq_true, Bool.not_eq_false] at h) <;> simp -dsimp only [go_sem, *, gi, gn, g0, g5])
      · have e2 := h
        rcases Nat.eq_zero_or_pos i with h0 | h0
        · subst h0
          simp -dsimp only [go_sem, gi, gn, g0, g5, Int.natCast_zero]
          rw [hs, e1, e2]; rfl
        · have hw : IntKind.i64.wrap ((i : Int) - 1) = ((i - 1 : Nat) : Int) := by rw [wrap64 (by omega) (by omega)]; omega
          have hlt : (0 : Int) < (i : Int) := by omega
          have hi' : i - 1 < l.length := by omega
          rw [if_neg (by omega)] at hs
          simp -dsimp only [go_sem, gi, gn, g0, g5, hlt, hw, ia_enc .i64 hi', ld_enc, c_mem]
          (refine cnd_intro (fun h => ?_) (fun h => ?_) <;> (try simp only [decide_eq_true_eq, decide_eq_false_iff_not, Bool.not_eq_true', Bool.not_eq_false', Bool.and_eq_true, Bool.or_eq_true, Bool.and_eq_false_iff, Bool.or_eq_false_iff, beq_iff_eq, beq_eq_false_iff_ne, ne_eq, Bool.not_eq_true, Bool.not_eq_false] at h) <;> simp -dsimp only [go_sem, *, gi, gn, g0, g5, F36, r_right])
          · refine bad ?_
            rw [hs, e1, e2, ltO, h]; rfl
          · exact h
      · have e2 := h
        simp -dsimp only [go_sem, gi, gn, g0, g5, F36, r_right]
        refine bad ?_
        rw [hs, e1, e2]; rfl
    · have e1 := h
      simp -dsimp only [go_sem, gi, gn, g0, g5, F36, r_right]
      refine bad ?_
      rw [hs, e1]; rfl
  · rintro g T gi ⟨g0, g5, hI⟩
    rw [List.take_length] at hI
    simp -dsimp only [go_sem, g0, F36]
    (refine cnd_intro (fun h => ?_) (fun h => ?_) <;> (try simp only [decide_eq_true_eq, decide_eq_false_iff_not, Bool.not_eq_true', Bool.not_eq_false', Bool.and_eq_true, Bool.or_eq_true, Bool.and_eq_false_iff, Bool.or_eq_false_iff, beq_iff_eq, beq_eq_false_iff_ne, ne_eq, Bool.not_eq_true, Bool.not_eq_false] at h) <;> simp -dsimp only [go_sem, *, g0, F36, c_owners h3 l hk])
    · simp only [r_right, rightP, hI, Bool.true_and]
      congr 1
      rw [show decide (l.length ≤ 8) = true from decide_eq_true (by omega), Bool.true_and]
      exact decide_eq_decide.2 (by omega)
    · simp only [r_right, rightP, hI, Bool.true_and]
      rw [show decide (l.length ≤ 8) = false from decide_eq_false (by omega)]; rfl
end Go.Proofs.Ytaajlbbooneiiaa.Avm
set_option linter.unusedVariables false
set_option linter.unusedSimpArgs false
namespace Go.Proofs.Ytaajlbbooneiiaa.Avm

/-- an element goes down past greater ones -/
def insG (x : Mem) : List Mem → List Mem → List Mem
  | [], B => x :: B
  | a :: rA, B => if Op.bytesLess x.name a.name = true then insG x rA (a :: B) else (a :: rA).reverse ++ x :: B
def isortG : List Mem → List Mem → List Mem
  | acc, [] => acc
  | acc, x :: r => isortG (insG x acc.reverse []) r
def isort : List Mem → List Mem
  | [] => []
  | x :: r => isortG [x] r

def shareP (l : List Mem) (by' name : Str) (r : Int) : List Mem × Int :=
  if rightP l = false ∨ nameOk name = false ∨ isRole r = false then ([], 2)
  else if ofP l by' < 3 then ([], 40)
  else if 0 ≤ atP l name then ([], 42)
  else if highP l by' [r] = true then ([], 40)
  else if 8 ≤ l.length then ([], 3)
  else (isort (l ++ [⟨name, r⟩]), 0)
/-- the role at a place -/
def roleAt (l : List Mem) (i : Int) : Int := ((l[i.toNat]?).map (·.role)).getD 0
def changeP (l : List Mem) (by' name : Str) (r : Int) : List Mem × Int :=
  if rightP l = false ∨ nameOk name = false ∨ isRole r = false then ([], 2)
  else if ofP l by' < 3 then ([], 40)
  else if atP l name < 0 then ([], 35)
  else if highP l by' [r, ofP l name] = true then ([], 40)
  else if ofP l name = 4 ∧ r < 4 ∧ ownersP l = 1 then ([], 46)
  else (l.set (atP l name).toNat ⟨name, r⟩, 0)
def revokeP (l : List Mem) (by' name : Str) : List Mem × Int :=
  if rightP l = false ∨ nameOk name = false then ([], 2)
  else if by' ≠ name ∧ ofP l by' < 3 then ([], 40)
  else if atP l name < 0 then ([], 35)
  else if by' ≠ name ∧ highP l by' [ofP l name] = true then ([], 40)
  else if ofP l name = 4 ∧ ownersP l = 1 then ([], 46)
  else (l.eraseIdx (atP l name).toNat, 0)

def long2 (l : List Mem) (n : Str) : Prop := long1 l ∧ n.length ≤ 9223372036854775807
/-- the clones of a list of members -/
noncomputable abbrev p_clone : List AV → Store → Option (AV × Store) := primO (fun l : List Mem => [enc l]) (ownRow 1000000)
end Go.Proofs.Ytaajlbbooneiiaa.Avm
set_option linter.unusedVariables false
set_option linter.unusedSimpArgs false
namespace Go.Proofs.Ytaajlbbooneiiaa.Avm

theorem insG_len (x : Mem) : ∀ A B, (insG x A B).length = A.length + B.length + 1
  | [], B => by simp [insG]
  | a :: rA, B => by
    simp only [insG]; split
    · rw [insG_len x rA]; simp; omega
    · simp; omega
theorem isortG_len : ∀ (acc r : List Mem), (isortG acc r).length = acc.length + r.length
  | acc, [] => by simp [isortG]
  | acc, x :: r => by rw [isortG, isortG_len, insG_len]; simp; omega

end Go.Proofs.Ytaajlbbooneiiaa.Avm
set_option linter.unusedVariables false
set_option linter.unusedSimpArgs false
namespace Go.Proofs.Ytaajlbbooneiiaa.Avm

end Go.Proofs.Ytaajlbbooneiiaa.Avm
set_option linter.unusedVariables false
set_option linter.unusedSimpArgs false
namespace Go.Proofs.Ytaajlbbooneiiaa.Avm

theorem right_len {l : List Mem} (h : rightP l = true) : l.length ≤ 8 ∧ l ≠ [] := by
  simp only [rightP, Bool.and_eq_true, decide_eq_true_eq] at h
  refine ⟨h.1.2, fun e => ?_⟩
  subst e; simp [ownersP, withP] at h
theorem nilPair (n : Int) (S : Store) : Conv S S (.tup [.nilS, .int .i64 n]) S (.tup [enc ([] : List Mem), .int .i64 n]) :=
  Conv.good List.prefix_rfl (fun i h => by simp [topIds, topIdsL] at h) rfl

end Go.Proofs.Ytaajlbbooneiiaa.Avm
set_option linter.unusedVariables false
set_option linter.unusedSimpArgs false
namespace Go.Proofs.Ytaajlbbooneiiaa.Avm
deriving instance DecidableEq for Mem
theorem mem_ext {a b : Mem} : a = b ↔ a.name = b.name ∧ a.role = b.role := by cases a; cases b; simp
@[go_sem] theorem neq_mem (a b : Mem) : eqsA true [1, 0] (.agg [.str a.name, .int .i64 a.role]) (.agg [.str b.name, .int .i64 b.role]) = some (.bool !decide (a = b)) := by
  rw [eqsA_n _ _ _ rfl rfl (aeqs_s _ _ _ _ _ (aeqs_i _ _ _ _ _ _ aeqs_nil))]
  simp [mem_ext]
@[go_sem] theorem eq_mem (a b : Mem) : eqsA false [1, 0] (.agg [.str a.name, .int .i64 a.role]) (.agg [.str b.name, .int .i64 b.role]) = some (.bool (decide (a = b))) := by
  rw [eqsA_e _ _ _ rfl rfl (aeqs_s _ _ _ _ _ (aeqs_i _ _ _ _ _ _ aeqs_nil))]
  simp [mem_ext]

def stepE (was now : List Mem) (by' name : Str) : Int :=
  if ofP now name = 0 then (revokeP was by' name).2 else if atP was name < 0 then (shareP was by' name (ofP now name)).2 else (changeP was by' name (ofP now name)).2
def stepP (was now : List Mem) (by' : Str) : Bool × Int :=
  if rightP was = false ∨ rightP now = false then (false, 2)
  else if (differP was now).length ≠ 1 then (false, 11)
  else
    let name := (differP was now).headD []
    (decide (ofP now name = 0) && decide (stepE was now by' name = 0), stepE was now by' name)

def ownersRP (l : List Mem) : Nat := (l.filter fun m => decide (m.role = 4)).length
def shareRP (l : List Mem) (by' name : Str) (r : Int) : Int :=
  if ofP l by' < 3 then 40 else if ofP l name > 0 then 42 else if r > 2 ∧ ofP l by' < 4 then 40 else if l.length = 8 then 3 else 0
def changeRP (l : List Mem) (by' name : Str) (r : Int) : Int :=
  if ofP l by' < 3 then 40 else if ofP l name = 0 then 35 else if ofP l by' < 4 ∧ (r > 2 ∨ ofP l name > 2) then 40 else if ofP l name = 4 ∧ r < 4 ∧ ownersRP l = 1 then 46 else 0
def revokeRP (l : List Mem) (by' name : Str) : Int :=
  if by' ≠ name ∧ ofP l by' < 3 then 40 else if ofP l name = 0 then 35 else if by' ≠ name ∧ ofP l name > 2 ∧ ofP l by' < 4 then 40 else if ofP l name = 4 ∧ ownersRP l = 1 then 46 else 0
def stepRP (was now : List Mem) (by' : Str) : Bool × Int :=
  if rightP was = false ∨ rightP now = false then (false, 2)
  else if (differP was now).length ≠ 1 then (false, 11)
  else
    let name := (differP was now).headD []
    if ofP now name = 0 then (decide (revokeRP was by' name = 0), revokeRP was by' name)
    else if ofP was name = 0 then (false, shareRP was by' name (ofP now name)) else (false, changeRP was by' name (ofP now name))
def fewP (l : List Mem) : Bool := l.all (fun m => decide (m.name.length ≤ 20)) && decide (l.length ≤ 20)

def e_ownersR : List Mem → List AV := fun l => [enc l]
def k_ownersR : List Mem → Prop := fun l => l.length ≤ 1000000
def r_ownersR : List Mem → AV := fun l => .int .i64 (ownersRP l)
noncomputable def p_ownersR : List AV → Store → Option (AV × Store) := primS e_ownersR (gd k_ownersR r_ownersR)
theorem i_ownersR : Inj e_ownersR := by
  intro l1 l2 h
  simpa only [e_ownersR, enc_inj, rec_inj, AV.str.injEq, AV.int.injEq, AV.bool.injEq, AV.agg.injEq, AV.ptr.injEq, AV.fn.injEq, List.cons.injEq, and_true, true_and, Prod.mk.injEq] using h
theorem c_ownersR {E : Env} (h : E.prim 39 = some fun _ => p_ownersR) (l : List Mem) (hk : l.length ≤ 1000000) {S : Store} {K : AV → Store → Prop} {d : Dm K} : SpD E 39 [enc l] S K d = K (.int .i64 (ownersRP l)) S :=
  callS h i_ownersR (a := l) (by simp only [e_ownersR, rdSL_cons, rdSL_nil, rdS_int, rdS_bool, rdS_str, enc_rdS, rdS_fn0, rdS_csl0, rdS_rec, rdSL_rec, rdS_agg, rdS_tup, Option.bind_some, Option.map_some]) hk
theorem c_ownersR' {E : Env} (h : E.prim 39 = some fun _ => p_ownersR) {S : Store} {x0 : AV} {l : List Mem} (h0 : rdS S x0 = some (enc l)) (hk : l.length ≤ 1000000) {K : AV → Store → Prop} {d : Dm K} : SpD E 39 [x0] S K d = K (.int .i64 (ownersRP l)) S :=
  callS h i_ownersR (a := l) (by simp only [e_ownersR, rdSL, h0, Option.bind_some, Option.map_some]) hk
def e_rightR : List Mem → List AV := fun l => [enc l]
def k_rightR : List Mem → Prop := fun l => long1 l
def r_rightR : List Mem → AV := fun l => .bool (rightP l)
noncomputable def p_rightR : List AV → Store → Option (AV × Store) := primS e_rightR (gd k_rightR r_rightR)
theorem i_rightR : Inj e_rightR := by
  intro l1 l2 h
  simpa only [e_rightR, enc_inj, rec_inj, AV.str.injEq, AV.int.injEq, AV.bool.injEq, AV.agg.injEq, AV.ptr.injEq, AV.fn.injEq, List.cons.injEq, and_true, true_and, Prod.mk.injEq] using h
theorem c_rightR {E : Env} (h : E.prim 25 = some fun _ => p_rightR) (l : List Mem) (hk : long1 l) {S : Store} {K : AV → Store → Prop} {d : Dm K} : SpD E 25 [enc l] S K d = K (.bool (rightP l)) S :=
  callS h i_rightR (a := l) (by simp only [e_rightR, rdSL_cons, rdSL_nil, rdS_int, rdS_bool, rdS_str, enc_rdS, rdS_fn0, rdS_csl0, rdS_rec, rdSL_rec, rdS_agg, rdS_tup, Option.bind_some, Option.map_some]) hk
theorem c_rightR' {E : Env} (h : E.prim 25 = some fun _ => p_rightR) {S : Store} {x0 : AV} {l : List Mem} (h0 : rdS S x0 = some (enc l)) (hk : long1 l) {K : AV → Store → Prop} {d : Dm K} : SpD E 25 [x0] S K d = K (.bool (rightP l)) S :=
  callS h i_rightR (a := l) (by simp only [e_rightR, rdSL, h0, Option.bind_some, Option.map_some]) hk
def e_sameR : (List Mem) × (List Mem) → List AV := fun | (l, m) => [enc l, enc m]
def k_sameR : (List Mem) × (List Mem) → Prop := fun | (l, m) => l.length ≤ 9223372036854775807
def r_sameR : (List Mem) × (List Mem) → AV := fun | (l, m) => .bool (decide (l = m))
noncomputable def p_sameR : List AV → Store → Option (AV × Store) := primS e_sameR (gd k_sameR r_sameR)
theorem i_sameR : Inj e_sameR := by
  rintro ⟨l1, m1⟩ ⟨l2, m2⟩ h
  simpa only [e_sameR, enc_inj, rec_inj, AV.str.injEq, AV.int.injEq, AV.bool.injEq, AV.agg.injEq, AV.ptr.injEq, AV.fn.injEq, List.cons.injEq, and_true, true_and, Prod.mk.injEq] using h
theorem c_sameR {E : Env} (h : E.prim 32 = some fun _ => p_sameR) (l : List Mem) (m : List Mem) (hk : l.length ≤ 9223372036854775807) {S : Store} {K : AV → Store → Prop} {d : Dm K} : SpD E 32 [enc l, enc m] S K d = K (.bool (decide (l = m))) S :=
  callS h i_sameR (a := (l, m)) (by simp only [e_sameR, rdSL_cons, rdSL_nil, rdS_int, rdS_bool, rdS_str, enc_rdS, rdS_fn0, rdS_csl0, rdS_rec, rdSL_rec, rdS_agg, rdS_tup, Option.bind_some, Option.map_some]) hk
theorem c_sameR' {E : Env} (h : E.prim 32 = some fun _ => p_sameR) {S : Store} {x0 x1 : AV} {l : List Mem} {m : List Mem} (h0 : rdS S x0 = some (enc l)) (h1 : rdS S x1 = some (enc m)) (hk : l.length ≤ 9223372036854775807) {K : AV → Store → Prop} {d : Dm K} : SpD E 32 [x0, x1] S K d = K (.bool (decide (l = m))) S :=
  callS h i_sameR (a := (l, m)) (by simp only [e_sameR, rdSL, h0, h1, Option.bind_some, Option.map_some]) hk
end Go.Proofs.Ytaajlbbooneiiaa.Avm
set_option linter.unusedVariables false
set_option linter.unusedSimpArgs false
namespace Go.Proofs.Ytaajlbbooneiiaa.Avm

theorem filt_succ {α β : Type} {l : List α} {i : Nat} (hi : i < l.length) (p : α → Bool) (f : α → β) : ((l.take (i + 1)).filter p).map f = if p l[i] = true then ((l.take i).filter p).map f ++ [f l[i]] else ((l.take i).filter p).map f := by
  rw [List.take_succ_eq_append_getElem hi, List.filter_append, List.map_append]
  split <;> simp_all [List.filter_cons]
theorem filt_len {α β : Type} (l : List α) (i : Nat) (p : α → Bool) (f : α → β) : (((l.take i).filter p).map f).length ≤ l.length := by
  rw [List.length_map]; exact Nat.le_trans (List.length_filter_le _ _) (List.length_take_le' _ _)

theorem ok_ownersR {E : Env} (hp : E.prim 39 = none) (hf : E.F 39 = some F39) : OkS E 39 e_ownersR (gd k_ownersR r_ownersR) := by
  refine OkS.code hp hf (fun _ => rfl) fun l hk => ?_
  have hk : l.length ≤ 1000000 := hk
  simp -dsimp only [go_sem, F39, e_ownersR]
  refine Ex.count (n := l.length) (i0 := 0) (fun i g T => g 0 = enc l ∧ g 3 = .int .i64 (ownersRP (l.take i))) (by decide) (by omega) rfl (by omega) ⟨rfl, rfl⟩ ?_ ?_ ?_
  · rintro i g T hi gi ⟨g0, g3⟩
    simp -dsimp only [go_sem, gi, g0]
  · rintro i g T hi gi ⟨g0, g3⟩
    have hfl := filt_len l i (fun x : Mem => decide (x.role = 4)) (·.name)
    have hfs0 := congrArg List.length (filt_succ hi (fun x : Mem => decide (x.role = 4)) (·.name))
    simp only [apply_ite List.length, List.length_append, List.length_map, List.length_singleton, decide_eq_true_eq] at hfs0 hfl
    have hfs : ownersRP (l.take (i + 1)) = if l[i].role = 4 then ownersRP (l.take i) + 1 else ownersRP (l.take i) := hfs0
    have hw := wrapS (i := ownersRP (l.take i)) (by unfold ownersRP; omega)
    simp -dsimp only [go_sem, gi, g0, g3, ia_enc .i64 hi, ld_enc, c_mem]
    refine cnd_intro (fun h => ?_) (fun h => ?_) <;> simp only [decide_eq_true_eq, decide_eq_false_iff_not] at h
    · rw [if_pos h] at hfs
      simp -dsimp only [go_sem, gi, g0, g3, hw, hfs]
    · rw [if_neg h] at hfs
      simp -dsimp only [go_sem, gi, g0, g3, hfs]
  · rintro g T gi ⟨g0, g3⟩
    rw [List.take_length] at g3
    simp -dsimp only [go_sem, F39, r_ownersR, g3]

theorem ok_sameR {E : Env} (hp : E.prim 32 = none) (hf : E.F 32 = some F32) : OkS E 32 e_sameR (gd k_sameR r_sameR) := by
  refine OkS.code hp hf (fun _ => rfl) fun ⟨l, m⟩ hk => ?_
  have hk : l.length ≤ 9223372036854775807 := hk
  simp -dsimp only [go_sem, F32, e_sameR]
  refine cnd_intro (fun h => ?_) (fun h => ?_) <;> simp only [Bool.not_eq_true', Bool.not_eq_false', decide_eq_true_eq, decide_eq_false_iff_not] at h
  · simp -dsimp only [go_sem, F32, r_sameR]
    refine congrArg AV.bool (decide_eq_false fun e => ?_).symm
    subst e; exact h rfl
  have hlen : l.length = m.length := by omega
  simp -dsimp only [go_sem, F32]
  refine Ex.count (n := l.length) (i0 := 0) (fun i g T => g 0 = enc l ∧ g 1 = enc m ∧ l.take i = m.take i) (by decide) hk rfl (by omega) ⟨rfl, rfl, rfl⟩ ?_ ?_ ?_
  · rintro i g T hi gi ⟨g0, g1, hI⟩
    simp -dsimp only [go_sem, gi, g0]
  · rintro i g T hi gi ⟨g0, g1, hI⟩
    have hi2 : i < m.length := by omega
    simp -dsimp only [go_sem, gi, g0, g1, ia_enc .i64 hi, ia_enc .i64 hi2, ld_enc, c_mem]
    refine cnd_intro (fun h => ?_) (fun h => ?_) <;> simp only [Bool.not_eq_true', Bool.not_eq_false', decide_eq_true_eq, decide_eq_false_iff_not] at h
    · simp -dsimp only [go_sem, F32, r_sameR]
      refine congrArg AV.bool (decide_eq_false fun e => ?_).symm
      subst e; exact h rfl
    · simp -dsimp only [go_sem, gi, g0, g1]
      rw [List.take_succ_eq_append_getElem hi, List.take_succ_eq_append_getElem hi2, hI, h]
  · rintro g T gi ⟨g0, g1, hI⟩
    rw [List.take_length, hlen, List.take_length] at hI
    subst hI
    simp -dsimp only [go_sem, F32, r_sameR]
end Go.Proofs.Ytaajlbbooneiiaa.Avm
set_option linter.unusedVariables false
set_option linter.unusedSimpArgs false
namespace Go.Proofs.Ytaajlbbooneiiaa.Avm

theorem differ_name {l m : List Mem} {n : Str} (h : n ∈ differP l m) : (∃ x, x ∈ l ∧ x.name = n) ∨ ∃ x, x ∈ m ∧ x.name = n := by
  simp only [differP, List.mem_append, List.mem_map, List.mem_filter] at h
  rcases h with ⟨x, h, rfl⟩ | ⟨x, h, rfl⟩
  · exact .inl ⟨x, h.1, rfl⟩
  · exact .inr ⟨x, h.1, rfl⟩

theorem head0 : ∀ {l : List Str} (h : 0 < l.length), l[0] = l.headD []
  | _ :: _, _ => rfl
/-- right lists, by all that stands ahead -/
theorem right_iff (l : List Mem) : rightP l = true ↔ (∀ m, m ∈ l → nameOk m.name = true ∧ isRole m.role = true) ∧ (l.map (·.name)).Pairwise (fun a b => Op.bytesLess a b = true) ∧ l.length ≤ 8 ∧ ownersRP l ≠ 0 := by
  simp only [rightP, Bool.and_eq_true, okFrom_iff, decide_eq_true_eq, ownersP, withP, ownersRP, List.length_map]
  constructor
  · rintro ⟨⟨⟨h1, h2, _⟩, h3⟩, h4⟩
    refine ⟨h1, h2, h3, ?_⟩
    have : (l.filter fun m => decide (m.role = 4)) = l.filter fun m => decide (4 ≤ m.role) := List.filter_congr fun m hm => by
      have := (h1 m hm).2
      simp only [isRole, decide_eq_true_eq] at this
      exact decide_eq_decide.2 (by omega)
    rw [this]; omega
  · rintro ⟨h1, h2, h3, h4⟩
    refine ⟨⟨⟨h1, h2, fun q hq => by cases hq⟩, h3⟩, ?_⟩
    have : (l.filter fun m => decide (m.role = 4)) = l.filter fun m => decide (4 ≤ m.role) := List.filter_congr fun m hm => by
      have := (h1 m hm).2
      simp only [isRole, decide_eq_true_eq] at this
      exact decide_eq_decide.2 (by omega)
    rw [← this]; omega

theorem ok_rightR {E : Env} (hp : E.prim 25 = none) (hf : E.F 25 = some F25) (h1 : E.prim 39 = some fun _ => p_ownersR) (h2 : E.prim 24 = some fun _ => p_nameR) :
    OkS E 25 e_rightR (gd k_rightR r_rightR) := by
  refine OkS.code hp hf (fun _ => rfl) fun l ⟨hk, hn⟩ => ?_
  have bad : ¬ ((∀ m, m ∈ l → nameOk m.name = true ∧ isRole m.role = true) ∧ (l.map (·.name)).Pairwise (fun a b => Op.bytesLess a b = true) ∧ l.length ≤ 8 ∧ ownersRP l ≠ 0) → AV.bool false = AV.bool (rightP l) := fun h => by
    cases hr : rightP l with
    | false => rfl
    | true => exact absurd ((right_iff l).1 hr) h
  simp -dsimp only [go_sem, F25, e_rightR]
  iterate 2 (all_goals try (refine cnd_intro (fun h => ?_) (fun h => ?_) <;> (try simp only [decide_eq_true_eq, decide_eq_false_iff_not, Bool.not_eq_true', Bool.not_eq_false', Bool.and_eq_true, Bool.or_eq_true, Bool.and_eq_false_iff, Bool.or_eq_false_iff, beq_iff_eq, beq_eq_false_iff_ne, ne_eq, Bool.not_eq_true, Bool.not_eq_false] at h) <;> simp -dsimp only [go_sem, *, F25, c_ownersR h1 l hk, r_rightR]))
  · exact bad fun q => by have := q.2.2.2; omega
  rotate_left
  · exact bad fun q => by have := q.2.2.1; omega
  have hw : ownersRP l ≠ 0 := by omega
  have hl8 : l.length ≤ 8 := by omega
  refine Ex.count (n := l.length) (i0 := 0) (fun i g T => g 0 = enc l ∧ (∀ m, m ∈ l.take i → nameOk m.name = true ∧ isRole m.role = true) ∧ ((l.take i).map (·.name)).Pairwise (fun a b => Op.bytesLess a b = true)) (by decide) (by omega) rfl (by omega) ⟨rfl, by simp, by simp⟩ ?_ ?_ ?_
  · rintro i g T hi gi ⟨g0, hI, hJ⟩
    simp -dsimp only [go_sem, gi, g0]
  · rintro i g T hi gi ⟨g0, hI, hJ⟩
    have hmem : l[i] ∈ l := List.getElem_mem hi
    simp -dsimp only [go_sem, gi, g0, ia_enc .i64 hi, ld_enc, c_mem, c_nameR h2 l[i].name (hn _ hmem)]
    (refine cnd_intro (fun h => ?_) (fun h => ?_) <;> (try simp only [decide_eq_true_eq, decide_eq_false_iff_not, Bool.not_eq_true', Bool.not_eq_false', Bool.and_eq_true, Bool.or_eq_true, Bool.and_eq_false_iff, Bool.or_eq_false_iff, beq_iff_eq, beq_eq_false_iff_ne, ne_eq, Bool.not_eq_true, Bool.not_eq_false] at h) <;> simp -dsimp only [go_sem, *, gi, g0, ia_enc .i64 hi, ld_enc, c_mem])
    rotate_left
    · simp -dsimp only [go_sem, F25, r_rightR]
      exact bad fun q => by have := (q.1 _ hmem).1; rw [h] at this; cases this
    have e1 := h
    (refine cnd_intro (fun h => ?_) (fun h => ?_) <;> (try simp only [decide_eq_true_eq, decide_eq_false_iff_not, Bool.not_eq_true', Bool.not_eq_false', Bool.and_eq_true, Bool.or_eq_true, Bool.and_eq_false_iff, Bool.or_eq_false_iff, beq_iff_eq, beq_eq_false_iff_ne, ne_eq, Bool.not_eq_true, Bool.not_eq_false] at h) <;> simp -dsimp only [go_sem, *, gi, g0, ia_enc .i64 hi, ld_enc, c_mem, F25, r_rightR])
    rotate_left
    · exact bad fun q => by have := (q.1 _ hmem).2; simp only [isRole, decide_eq_true_eq] at this; omega
    have e2 := h
    (refine cnd_intro (fun h => ?_) (fun h => ?_) <;> (try simp only [decide_eq_true_eq, decide_eq_false_iff_not, Bool.not_eq_true', Bool.not_eq_false', Bool.and_eq_true, Bool.or_eq_true, Bool.and_eq_false_iff, Bool.or_eq_false_iff, beq_iff_eq, beq_eq_false_iff_ne, ne_eq, Bool.not_eq_true, Bool.not_eq_false] at h) <;> simp -dsimp only [go_sem, *, gi, g0, ia_enc .i64 hi, ld_enc, c_mem, F25, r_rightR])
    · exact bad fun q => by have := (q.1 _ hmem).2; simp only [isRole, decide_eq_true_eq] at this; omega
    have e3 : isRole l[i].role = true := by simp only [isRole, decide_eq_true_eq]; omega
    refine Ex.count (n := i) (i0 := 0) (fun k g T => g 0 = enc l ∧ g 3 = .int .i64 i ∧ ∀ j, (hj : j < k) → (hjl : j < l.length) → Op.bytesLess l[j].name l[i].name = true) (by decide) (by omega) rfl (by omega) (by simp -dsimp only [go_sem, g0, gi]; intro j hj; omega) ?_ ?_ ?_
    · rintro k g T hk gk ⟨g0, g3, hK⟩
      simp -dsimp only [go_sem, gk, g3]
    · rintro k g T hk gk ⟨g0, g3, hK⟩
      have hkl : k < l.length := by omega
      simp -dsimp only [go_sem, gk, g0, g3, ia_enc .i64 hi, ia_enc .i64 hkl, ld_enc, c_mem]
      (refine cnd_intro (fun h => ?_) (fun h => ?_) <;> (try simp only [decide_eq_true_eq, decide_eq_false_iff_not, Bool.not_eq_true', Bool.not_eq_false', Bool.and_eq_true, Bool.or_eq_true, Bool.and_eq_false_iff, Bool.or_eq_false_iff, beq_iff_eq, beq_eq_false_iff_ne, ne_eq, Bool.not_eq_true, Bool.not_eq_false] at h) <;> simp -dsimp only [go_sem, *, gk, g0, g3, F25, r_rightR])
      rotate_left
      · intro j hj hjl
        rcases Nat.lt_or_ge j k with h' | h'
        · exact hK j h' hjl
        · have : j = k := by omega
          subst this; exact h
      · refine bad fun q => ?_
        have := (List.pairwise_iff_getElem.1 q.2.1) k i (by simpa using hkl) (by simpa using hi) hk
        simp only [List.getElem_map] at this
        rw [h] at this; cases this
    · rintro g T gk ⟨g0, g3, hK⟩
      simp -dsimp only [go_sem, g0, g3]
      refine ⟨fun m hm => ?_, ?_⟩
      · rw [List.take_succ_eq_append_getElem hi, List.mem_append] at hm
        rcases hm with hm | hm
        · exact hI m hm
        · rw [List.mem_singleton] at hm; subst hm; exact ⟨e1, e3⟩
      · rw [List.take_succ_eq_append_getElem hi, List.map_append, List.pairwise_append]
        refine ⟨hJ, by simp, fun a ha b hb => ?_⟩
        simp only [List.map_cons, List.map_nil, List.mem_singleton] at hb
        subst hb
        obtain ⟨m, hm, rfl⟩ := List.mem_map.1 ha
        obtain ⟨j, hj, rfl⟩ := List.mem_take_iff_getElem.1 hm
        exact hK j (by omega) (by omega)
  · rintro g T gi ⟨g0, hI, hJ⟩
    rw [List.take_length] at hI hJ
    simp -dsimp only [go_sem, F25, r_rightR]
    rw [(right_iff l).2 ⟨hI, hJ, hl8, hw⟩]
end Go.Proofs.Ytaajlbbooneiiaa.Avm
set_option linter.unusedVariables false
set_option linter.unusedSimpArgs false
namespace Go.Proofs.Ytaajlbbooneiiaa.Avm

theorem last_one {l : List Str} (h : l.length = 1) : l = [l.headD []] := by
  cases l with
  | nil => simp at h
  | cons a l => cases l with
    | nil => rfl
    | cons b l => simp at h

def dfA (m l : List Mem) : List Str := (l.filter fun x => decide (ofP m x.name ≠ x.role)).map (·.name)
def dfB (l m : List Mem) : List Str := (m.filter fun x => decide (ofP l x.name = 0)).map (·.name)
theorem dfA_succ {l : List Mem} {i : Nat} (hi : i < l.length) (m : List Mem) : dfA m (l.take (i + 1)) = if ¬ ofP m l[i].name = l[i].role then dfA m (l.take i) ++ [l[i].name] else dfA m (l.take i) := by
  unfold dfA; rw [filt_succ hi]; simp only [decide_eq_true_eq, ne_eq]
theorem dfB_succ {m : List Mem} {i : Nat} (hi : i < m.length) (l : List Mem) : dfB l (m.take (i + 1)) = if ofP l m[i].name = 0 then dfB l (m.take i) ++ [m[i].name] else dfB l (m.take i) := by
  unfold dfB; rw [filt_succ hi]; simp only [decide_eq_true_eq]
theorem isort_two : isort ([⟨[97], 4⟩] ++ [⟨[98], 2⟩]) = [⟨[97], 4⟩, ⟨[98], 2⟩] := rfl
/-! ### the plain law -/
theorem owners_right {l : List Mem} (h : rightP l = true) : ownersP l = ownersRP l := by
  have h1 := ((right_iff l).1 h).1
  simp only [ownersP, withP, ownersRP, List.length_map]
  congr 1
  exact List.filter_congr fun m hm => by
    have := (h1 m hm).2
    simp only [isRole, decide_eq_true_eq] at this
    exact decide_eq_decide.2 (by omega)
theorem of_at {l : List Mem} (h : rightP l = true) (n : Str) : (atP l n < 0 ↔ ofP l n = 0) ∧ (0 ≤ atP l n ↔ 0 < ofP l n) := by
  rcases atP_spec l n with ⟨h1, h2, _⟩ | ⟨j, hj, h1, h2, _⟩
  · exact ⟨by omega, by omega⟩
  · have := (((right_iff l).1 h).1 _ (List.getElem_mem hj)).2
    simp only [isRole, decide_eq_true_eq] at this
    exact ⟨by omega, by omega⟩
theorem high_one (l : List Mem) (b : Str) (x : Int) : (highP l b [x] = true) ↔ (3 ≤ x ∧ ofP l b < 4) := by
  show (decide (3 ≤ x) && decide (ofP l b < 4)) = true ↔ _
  simp only [Bool.and_eq_true, decide_eq_true_eq]
theorem high_two (l : List Mem) (b : Str) (x y : Int) : (highP l b [x, y] = true) ↔ ((3 ≤ x ∨ 3 ≤ y) ∧ ofP l b < 4) := by
  show (decide (3 ≤ (if y > x then y else x)) && decide (ofP l b < 4)) = true ↔ _
  simp only [Bool.and_eq_true, decide_eq_true_eq]
  split <;> omega
theorem of_ge {l : List Mem} (h : rightP l = true) (n : Str) : 0 ≤ ofP l n ∧ ofP l n ≤ 4 := by
  rcases atP_spec l n with ⟨_, h2, _⟩ | ⟨j, hj, _, h2, _⟩
  · omega
  · have := (((right_iff l).1 h).1 _ (List.getElem_mem hj)).2
    simp only [isRole, decide_eq_true_eq] at this
    omega
theorem revoke_eq {l : List Mem} (h : rightP l = true) {n : Str} (hn : nameOk n = true) (b : Str) : (revokeP l b n).2 = revokeRP l b n := by
  have h1 := (of_at h n).1
  have h2 := owners_right h
  have h4 := of_ge h n
  simp only [revokeP, revokeRP, h, hn, Bool.true_eq_false, or_self, if_false, h1, h2, high_one]
  by_cases hb : b = n
  · simp only [hb, ne_eq, not_true_eq_false, false_and, if_false]
    repeat' split
    all_goals first | rfl | (exfalso; omega)
  · simp only [ne_eq, hb, not_false_eq_true, true_and]
    repeat' split
    all_goals first | rfl | (exfalso; omega)
theorem share_eq {l : List Mem} (h : rightP l = true) {n : Str} (hn : nameOk n = true) {r : Int} (hr : isRole r = true) (b : Str) : (shareP l b n r).2 = shareRP l b n r := by
  have h1 := (of_at h n).2
  have h3 := (right_len h).1
  have h4 := of_ge h n
  simp only [shareP, shareRP, h, hn, hr, Bool.true_eq_false, or_self, if_false, high_one, h1]
  repeat' split
  all_goals first | rfl | (exfalso; omega)
theorem change_eq {l : List Mem} (h : rightP l = true) {n : Str} (hn : nameOk n = true) {r : Int} (hr : isRole r = true) (b : Str) : (changeP l b n r).2 = changeRP l b n r := by
  have h1 := (of_at h n).1
  have h2 := owners_right h
  simp only [changeP, changeRP, h, hn, hr, Bool.true_eq_false, or_self, if_false, h1, h2, high_two]
  repeat' split
  all_goals first | rfl | (exfalso; omega)
theorem step_eq (l m : List Mem) (b : Str) : stepP l m b = stepRP l m b := by
  unfold stepP stepRP
  split
  · rfl
  rename_i h
  simp only [not_or, Bool.not_eq_false] at h
  split
  · rfl
  rename_i h3
  have h3 : (differP l m).length = 1 := by omega
  have hz : 0 < (differP l m).length := by omega
  have hmem : (differP l m).headD [] ∈ differP l m := by rw [← head0 hz]; exact List.getElem_mem hz
  have hn : nameOk ((differP l m).headD []) = true := by
    rcases differ_name hmem with ⟨x, hx, e⟩ | ⟨x, hx, e⟩
    · rw [← e]; exact (((right_iff l).1 h.1).1 x hx).1
    · rw [← e]; exact (((right_iff m).1 h.2).1 x hx).1
  generalize (differP l m).headD [] = n at hn
  have hof : ofP m n ≠ 0 → isRole (ofP m n) = true := fun hne => by
    rcases atP_spec m n with ⟨_, h2, _⟩ | ⟨j, hj, _, h2, _⟩
    · exact absurd h2 hne
    · rw [h2]; exact (((right_iff m).1 h.2).1 _ (List.getElem_mem hj)).2
  simp only [stepE]
  by_cases h0 : ofP m n = 0
  · simp only [h0, if_true, decide_true, Bool.true_and, revoke_eq h.1 hn]
  · simp only [h0, if_false, decide_false, Bool.false_and]
    have := of_at h.1 n
    by_cases ha : ofP l n = 0
    · rw [if_pos ha, if_pos (this.1.2 ha), share_eq h.1 hn (hof h0)]
    · rw [if_neg ha, if_neg (fun q => ha (this.1.1 q)), change_eq h.1 hn (hof h0)]

end Go.Proofs.Ytaajlbbooneiiaa.Avm
set_option linter.unusedVariables false
set_option linter.unusedSimpArgs false
namespace Go.Proofs.Ytaajlbbooneiiaa.Avm

def MayQ (m : Mani) : Prop := nameOk m.folder = true ∧ nameOk m.by' = true ∧ 1 ≤ m.seq ∧ m.seq ≤ 1099511627776 ∧ (m.seq = 1 ↔ m.prev.length = 0) ∧ m.prev.length ≤ 64 ∧ (m.parent = [] ∨ nameOk m.parent = true) ∧ m.parent ≠ m.folder ∧ rightP m.members = true ∧ 0 ≤ m.cut ∧ m.cut ≤ m.seq
instance (m : Mani) : Decidable (MayQ m) := by unfold MayQ; infer_instance
def mayP (m : Mani) : Bool := decide (MayQ m)
def fewM (m : Mani) : Bool := m.members.all (fun x => decide (x.name.length ≤ 20)) && (decide (m.folder.length ≤ 20) && (decide (m.by'.length ≤ 20) && (decide (m.parent.length ≤ 20) && (decide (m.members.length ≤ 20) && decide (m.prev.length ≤ 100)))))
/-- no text is beyond what can be -/
def longM (m : Mani) : Prop := m.folder.length ≤ 9223372036854775807 ∧ m.by'.length ≤ 9223372036854775807 ∧ m.parent.length ≤ 9223372036854775807 ∧ long1 m.members ∧ m.prev.length ≤ 9223372036854775807
def beginsP (m : Mani) : Int := if (!mayP m) = true then 2 else if (!decide (m.seq = 1) || !decide (((m.members.length : Nat) : Int) = 1)) = true then 11
  else if (!decide ((m.members.map (·.name)).headD [] = m.by')) = true then 11 else if (!decide (m.cut = 0) || m.gone) = true then 11 else 0
def beginsRP (m : Mani) : Int := if (!mayP m) = true then 2 else if (decide (m.seq = 1) && decide (m.members = [⟨m.by', 4⟩]) && decide (m.cut = 0) && !m.gone) = true then 0 else 11
def followsP (w : Mani) (d : List UInt8) (m : Mani) : Int :=
  if (!mayP w || !mayP m) = true then 2
  else if (w.gone || !decide (m.folder = w.folder) || !decide (m.seq = w.seq + 1) || !decide (m.prev = d)) = true then 11
  else if m.gone = true then (if (!decide (w.members = m.members) || !decide (m.parent = w.parent) || !decide (m.cut = w.cut)) = true then 11 else if ofP w.members m.by' < 4 then 40 else 0)
  else if (!decide (m.parent = w.parent)) = true then (if (!decide (w.members = m.members) || !decide (m.cut = m.seq)) = true then 11 else if ofP w.members m.by' < 4 then 40 else 0)
  else if (!decide ((stepP w.members m.members m.by').2 = 0)) = true then (stepP w.members m.members m.by').2
  else if (((stepP w.members m.members m.by').1 && !decide (m.cut = m.seq)) || (!(stepP w.members m.members m.by').1 && !decide (m.cut = w.cut))) = true then 11 else 0
def followsRP (w : Mani) (d : List UInt8) (m : Mani) : Int :=
  if (!mayP w || !mayP m) = true then 2
  else if (w.gone || !decide (m.folder = w.folder) || !decide (m.seq - 1 = w.seq) || !decide (m.prev = d)) = true then 11
  else if m.gone = true then (if (!decide (w.members = m.members) || !decide (m.cut = w.cut) || !decide (m.parent = w.parent)) = true then 11 else if (!decide (ofP w.members m.by' = 4)) = true then 40 else 0)
  else if (!decide (m.parent = w.parent)) = true then (if (!decide (w.members = m.members) || !decide (m.cut = m.seq)) = true then 11 else if (!decide (ofP w.members m.by' = 4)) = true then 40 else 0)
  else if (!decide ((stepRP w.members m.members m.by').2 = 0)) = true then (stepRP w.members m.members m.by').2
  else if (((stepRP w.members m.members m.by').1 && decide (m.cut = m.seq)) || (!(stepRP w.members m.members m.by').1 && decide (m.cut = w.cut))) = true then 0 else 11

def e_bsame : (List UInt8) × (List UInt8) → List AV := fun | (a, b) => [enc a, enc b]
def k_bsame : (List UInt8) × (List UInt8) → Prop := fun | (a, b) => a.length ≤ 9223372036854775807
def r_bsame : (List UInt8) × (List UInt8) → AV := fun | (a, b) => .bool (decide (a = b))
noncomputable def p_bsame : List AV → Store → Option (AV × Store) := primS e_bsame (gd k_bsame r_bsame)
theorem i_bsame : Inj e_bsame := by
  rintro ⟨a1, b1⟩ ⟨a2, b2⟩ h
  simpa only [e_bsame, enc_inj, rec_inj, AV.str.injEq, AV.int.injEq, AV.bool.injEq, AV.agg.injEq, AV.ptr.injEq, AV.fn.injEq, List.cons.injEq, and_true, true_and, Prod.mk.injEq] using h
theorem c_bsame {E : Env} (h : E.prim 11 = some fun _ => p_bsame) (a : List UInt8) (b : List UInt8) (hk : a.length ≤ 9223372036854775807) {S : Store} {K : AV → Store → Prop} {d : Dm K} : SpD E 11 [enc a, enc b] S K d = K (.bool (decide (a = b))) S :=
  callS h i_bsame (a := (a, b)) (by simp only [e_bsame, rdSL_cons, rdSL_nil, rdS_int, rdS_bool, rdS_str, enc_rdS, rdS_fn0, rdS_csl0, rdS_rec, rdSL_rec, rdS_agg, rdS_tup, Option.bind_some, Option.map_some]) hk
theorem c_bsame' {E : Env} (h : E.prim 11 = some fun _ => p_bsame) {S : Store} {x0 x1 : AV} {a : List UInt8} {b : List UInt8} (h0 : rdS S x0 = some (enc a)) (h1 : rdS S x1 = some (enc b)) (hk : a.length ≤ 9223372036854775807) {K : AV → Store → Prop} {d : Dm K} : SpD E 11 [x0, x1] S K d = K (.bool (decide (a = b))) S :=
  callS h i_bsame (a := (a, b)) (by simp only [e_bsame, rdSL, h0, h1, Option.bind_some, Option.map_some]) hk
def e_may : Mani → List AV := fun m => [.agg (maniL m)]
def k_may : Mani → Prop := fun m => longM m
def r_may : Mani → AV := fun m => .bool (mayP m)
noncomputable def p_may : List AV → Store → Option (AV × Store) := primS e_may (gd k_may r_may)
theorem i_may : Inj e_may := by
  intro m1 m2 h
  simpa only [e_may, enc_inj, rec_inj, AV.str.injEq, AV.int.injEq, AV.bool.injEq, AV.agg.injEq, AV.ptr.injEq, AV.fn.injEq, List.cons.injEq, and_true, true_and, Prod.mk.injEq, Mani.ext_iff, and_assoc] using h
theorem c_may {E : Env} (h : E.prim 17 = some fun _ => p_may) (m : Mani) (hk : longM m) {S : Store} {K : AV → Store → Prop} {d : Dm K} : SpD E 17 [.agg (maniL m)] S K d = K (.bool (mayP m)) S :=
  callS h i_may (a := m) (by simp only [e_may, rdSL_cons, rdSL_nil, rdS_int, rdS_bool, rdS_str, enc_rdS, rdS_fn0, rdS_csl0, rdS_rec, rdSL_rec, rdS_agg, rdS_tup, Option.bind_some, Option.map_some]) hk
theorem c_may' {E : Env} (h : E.prim 17 = some fun _ => p_may) {S : Store} {x0 : AV} {m : Mani} (h0 : rdS S x0 = some (.agg (maniL m))) (hk : longM m) {K : AV → Store → Prop} {d : Dm K} : SpD E 17 [x0] S K d = K (.bool (mayP m)) S :=
  callS h i_may (a := m) (by simp only [e_may, rdSL, h0, Option.bind_some, Option.map_some]) hk
def e_mayR : Mani → List AV := fun m => [.agg (maniL m)]
def k_mayR : Mani → Prop := fun m => longM m
def r_mayR : Mani → AV := fun m => .bool (mayP m)
noncomputable def p_mayR : List AV → Store → Option (AV × Store) := primS e_mayR (gd k_mayR r_mayR)
theorem i_mayR : Inj e_mayR := by
  intro m1 m2 h
  simpa only [e_mayR, enc_inj, rec_inj, AV.str.injEq, AV.int.injEq, AV.bool.injEq, AV.agg.injEq, AV.ptr.injEq, AV.fn.injEq, List.cons.injEq, and_true, true_and, Prod.mk.injEq, Mani.ext_iff, and_assoc] using h
theorem c_mayR {E : Env} (h : E.prim 8 = some fun _ => p_mayR) (m : Mani) (hk : longM m) {S : Store} {K : AV → Store → Prop} {d : Dm K} : SpD E 8 [.agg (maniL m)] S K d = K (.bool (mayP m)) S :=
  callS h i_mayR (a := m) (by simp only [e_mayR, rdSL_cons, rdSL_nil, rdS_int, rdS_bool, rdS_str, enc_rdS, rdS_fn0, rdS_csl0, rdS_rec, rdSL_rec, rdS_agg, rdS_tup, Option.bind_some, Option.map_some]) hk
theorem c_mayR' {E : Env} (h : E.prim 8 = some fun _ => p_mayR) {S : Store} {x0 : AV} {m : Mani} (h0 : rdS S x0 = some (.agg (maniL m))) (hk : longM m) {K : AV → Store → Prop} {d : Dm K} : SpD E 8 [x0] S K d = K (.bool (mayP m)) S :=
  callS h i_mayR (a := m) (by simp only [e_mayR, rdSL, h0, Option.bind_some, Option.map_some]) hk
def e_begins : Mani → List AV := fun m => [.agg (maniL m)]
def k_begins : Mani → Prop := fun m => longM m
def r_begins : Mani → AV := fun m => .int .i64 (beginsP m)
noncomputable def p_begins : List AV → Store → Option (AV × Store) := primS e_begins (gd k_begins r_begins)
theorem i_begins : Inj e_begins := by
  intro m1 m2 h
  simpa only [e_begins, enc_inj, rec_inj, AV.str.injEq, AV.int.injEq, AV.bool.injEq, AV.agg.injEq, AV.ptr.injEq, AV.fn.injEq, List.cons.injEq, and_true, true_and, Prod.mk.injEq, Mani.ext_iff, and_assoc] using h
theorem c_begins {E : Env} (h : E.prim 9 = some fun _ => p_begins) (m : Mani) (hk : longM m) {S : Store} {K : AV → Store → Prop} {d : Dm K} : SpD E 9 [.agg (maniL m)] S K d = K (.int .i64 (beginsP m)) S :=
  callS h i_begins (a := m) (by simp only [e_begins, rdSL_cons, rdSL_nil, rdS_int, rdS_bool, rdS_str, enc_rdS, rdS_fn0, rdS_csl0, rdS_rec, rdSL_rec, rdS_agg, rdS_tup, Option.bind_some, Option.map_some]) hk
theorem c_begins' {E : Env} (h : E.prim 9 = some fun _ => p_begins) {S : Store} {x0 : AV} {m : Mani} (h0 : rdS S x0 = some (.agg (maniL m))) (hk : longM m) {K : AV → Store → Prop} {d : Dm K} : SpD E 9 [x0] S K d = K (.int .i64 (beginsP m)) S :=
  callS h i_begins (a := m) (by simp only [e_begins, rdSL, h0, Option.bind_some, Option.map_some]) hk
def e_fewM : Mani → List AV := fun m => [.agg (maniL m)]
def k_fewM : Mani → Prop := fun m => m.members.length ≤ 9223372036854775807
def r_fewM : Mani → AV := fun m => .bool (fewM m)
noncomputable def p_fewM : List AV → Store → Option (AV × Store) := primS e_fewM (gd k_fewM r_fewM)
theorem i_fewM : Inj e_fewM := by
  intro m1 m2 h
  simpa only [e_fewM, enc_inj, rec_inj, AV.str.injEq, AV.int.injEq, AV.bool.injEq, AV.agg.injEq, AV.ptr.injEq, AV.fn.injEq, List.cons.injEq, and_true, true_and, Prod.mk.injEq, Mani.ext_iff, and_assoc] using h
theorem c_fewM {E : Env} (h : E.prim 6 = some fun _ => p_fewM) (m : Mani) (hk : m.members.length ≤ 9223372036854775807) {S : Store} {K : AV → Store → Prop} {d : Dm K} : SpD E 6 [.agg (maniL m)] S K d = K (.bool (fewM m)) S :=
  callS h i_fewM (a := m) (by simp only [e_fewM, rdSL_cons, rdSL_nil, rdS_int, rdS_bool, rdS_str, enc_rdS, rdS_fn0, rdS_csl0, rdS_rec, rdSL_rec, rdS_agg, rdS_tup, Option.bind_some, Option.map_some]) hk
theorem c_fewM' {E : Env} (h : E.prim 6 = some fun _ => p_fewM) {S : Store} {x0 : AV} {m : Mani} (h0 : rdS S x0 = some (.agg (maniL m))) (hk : m.members.length ≤ 9223372036854775807) {K : AV → Store → Prop} {d : Dm K} : SpD E 6 [x0] S K d = K (.bool (fewM m)) S :=
  callS h i_fewM (a := m) (by simp only [e_fewM, rdSL, h0, Option.bind_some, Option.map_some]) hk
def e_awake28 : Unit → List AV := fun _ => []
def k_awake28 : Unit → Prop := fun _ => True
def r_awake28 : Unit → AV := fun _ => .bool true
noncomputable def p_awake28 : List AV → Store → Option (AV × Store) := primS e_awake28 (gd k_awake28 r_awake28)
theorem i_awake28 : Inj e_awake28 := fun _ _ _ => rfl
theorem c_awake28 {E : Env} (h : E.prim 5 = some fun _ => p_awake28)  {S : Store} {K : AV → Store → Prop} {d : Dm K} : SpD E 5 [] S K d = K (.bool true) S :=
  callS h i_awake28 (a := ()) (by simp only [e_awake28, rdSL_cons, rdSL_nil, rdS_int, rdS_bool, rdS_str, enc_rdS, rdS_fn0, rdS_csl0, rdS_rec, rdSL_rec, rdS_agg, rdS_tup, Option.bind_some, Option.map_some]) trivial
end Go.Proofs.Ytaajlbbooneiiaa.Avm
set_option linter.unusedVariables false
set_option linter.unusedSimpArgs false
set_option maxRecDepth 10000
namespace Go.Proofs.Ytaajlbbooneiiaa.Avm

theorem ok_bsame {E : Env} (hp : E.prim 11 = none) (hf : E.F 11 = some F11) : OkS E 11 e_bsame (gd k_bsame r_bsame) := by
  refine OkS.code hp hf (fun _ => rfl) fun ⟨a, b⟩ hk => ?_
  have hk : a.length ≤ 9223372036854775807 := hk
  simp -dsimp only [go_sem, F11, e_bsame, r_bsame]
  refine cnd_intro (fun h => ?_) (fun h => ?_) <;> simp only [decide_eq_true_eq, decide_eq_false_iff_not, Bool.not_eq_true', Bool.not_eq_false'] at h
  · have : ¬ a = b := fun e => h (by rw [e])
    simp -dsimp only [go_sem, F11, r_bsame, this]
  · have hl : a.length = b.length := by omega
    simp -dsimp only [go_sem, F11, r_bsame, hl]
    refine Ex.count (n := a.length) (i0 := 0) (fun i g T => g 0 = enc a ∧ g 1 = enc b ∧ a.take i = b.take i) (by decide) (by omega) rfl (by omega) ⟨rfl, rfl, rfl⟩ ?_ ?_ ?_
    · rintro i g T hi gi ⟨g0, g1, hI⟩
      simp -dsimp only [go_sem, gi, g0]
    · rintro i g T hi gi ⟨g0, g1, hI⟩
      have hib : i < b.length := by omega
      simp -dsimp only [go_sem, gi, g0, g1, ia_enc .i64 hi, ia_enc .i64 hib, ld_enc]
      refine cnd_intro (fun h => ?_) (fun h => ?_) <;> simp only [decide_eq_true_eq, decide_eq_false_iff_not, Bool.not_eq_true', Bool.not_eq_false'] at h
      · have : ¬ a = b := fun e => h (by subst e; rfl)
        simp -dsimp only [go_sem, F11, r_bsame, this]
      · simp -dsimp only [go_sem, gi, g0, g1]
        rw [List.take_succ_eq_append_getElem hi, List.take_succ_eq_append_getElem hib, hI]
        have : a[i] = b[i] := UInt8.toNat_inj.1 (by omega)
        rw [this]
    · rintro g T gi ⟨g0, g1, hI⟩
      have : a = b := by rw [List.take_of_length_le (Nat.le_refl _), hl, List.take_of_length_le (Nat.le_refl _)] at hI; exact hI
      simp -dsimp only [go_sem, F11, r_bsame, this]

theorem mayQ_of {m : Mani} (h1 : nameOk m.folder = true) (h2 : nameOk m.by' = true) (h3 : 1 ≤ m.seq) (h4 : m.seq ≤ 1099511627776) (h5 : m.seq = 1 ↔ m.prev.length = 0) (h6 : m.prev.length ≤ 64) (h7 : m.parent = [] ∨ nameOk m.parent = true) (h8 : m.parent ≠ m.folder) (h9 : rightP m.members = true) (h10 : 0 ≤ m.cut) (h11 : m.cut ≤ m.seq) : MayQ m :=
  ⟨h1, h2, h3, h4, h5, h6, h7, h8, h9, h10, h11⟩
theorem nameOk_ne {s : Str} (h : nameOk s = true) : s ≠ [] := by rintro rfl; simp [nameOk] at h
theorem ok_may {E : Env} (hp : E.prim 17 = none) (hf : E.F 17 = some F17) (h1 : E.prim 35 = some fun _ => p_name) (h2 : E.prim 36 = some fun _ => p_right) : OkS E 17 e_may (gd k_may r_may) := by
  refine OkS.code hp hf (fun _ => rfl) fun m ⟨l1, l2, l3, l4, l5⟩ => ?_
  by_cases hM : MayQ m
  · obtain ⟨q1, q2, q3, q4, q5, q6, q7, q8, q9, q10, q11⟩ := id hM
    have r1 : decide (m.seq < 1) = false := decide_eq_false (by omega)
    have r2 : decide (1099511627776 < m.seq) = false := decide_eq_false (by omega)
    have r3 : decide (m.seq = 1) = decide (((m.prev.length : Nat) : Int) = 0) := decide_eq_decide.2 (by omega)
    have r4 : decide ((64 : Int) < ((m.prev.length : Nat) : Int)) = false := decide_eq_false (by omega)
    have r5 : decide (m.parent = m.folder) = false := decide_eq_false q8
    have r6 : decide (0 ≤ m.cut) = true := decide_eq_true q10
    have r7 : decide (m.cut ≤ m.seq) = true := decide_eq_true q11
    have e : mayP m = true := decide_eq_true hM
    rcases q7 with q7 | q7
    · have r8 : decide (m.parent = []) = true := decide_eq_true q7
      simp -dsimp only [go_sem, F17, e_may, r_may, c_name h1 m.folder l1, c_name h1 m.by' l2, c_name h1 m.parent l3, c_right h2 m.members l4, q1, q2, q9, r1, r2, r3, r4, r5, r6, r7, r8, e]
    · have r8 : decide (m.parent = []) = false := decide_eq_false (nameOk_ne q7)
      simp -dsimp only [go_sem, F17, e_may, r_may, c_name h1 m.folder l1, c_name h1 m.by' l2, c_name h1 m.parent l3, c_right h2 m.members l4, q1, q2, q7, q9, r1, r2, r3, r4, r5, r6, r7, r8, e]
  · have e : AV.bool false = AV.bool (mayP m) := by rw [mayP, decide_eq_false hM]
    cases q1 : nameOk m.folder
    · simp -dsimp only [go_sem, F17, e_may, r_may, c_name h1 m.folder l1, c_name h1 m.by' l2, c_name h1 m.parent l3, c_right h2 m.members l4, q1]
      exact e
    cases q2 : nameOk m.by'
    · simp -dsimp only [go_sem, F17, e_may, r_may, c_name h1 m.folder l1, c_name h1 m.by' l2, c_name h1 m.parent l3, c_right h2 m.members l4, q1, q2]
      exact e
    cases r1 : decide (m.seq < 1)
    rotate_left
    · simp -dsimp only [go_sem, F17, e_may, r_may, c_name h1 m.folder l1, c_name h1 m.by' l2, c_name h1 m.parent l3, c_right h2 m.members l4, q1, q2, r1]
      exact e
    cases r2 : decide (1099511627776 < m.seq)
    rotate_left
    · simp -dsimp only [go_sem, F17, e_may, r_may, c_name h1 m.folder l1, c_name h1 m.by' l2, c_name h1 m.parent l3, c_right h2 m.members l4, q1, q2, r1, r2]
      exact e
    cases r3 : (decide (m.seq = 1) != decide (((m.prev.length : Nat) : Int) = 0))
    rotate_left
    · simp -dsimp only [go_sem, F17, e_may, r_may, c_name h1 m.folder l1, c_name h1 m.by' l2, c_name h1 m.parent l3, c_right h2 m.members l4, q1, q2, r1, r2, r3]
      exact e
    cases r4 : decide ((64 : Int) < ((m.prev.length : Nat) : Int))
    rotate_left
    · simp -dsimp only [go_sem, F17, e_may, r_may, c_name h1 m.folder l1, c_name h1 m.by' l2, c_name h1 m.parent l3, c_right h2 m.members l4, q1, q2, r1, r2, r3, r4]
      exact e
    cases r8 : decide (m.parent = [])
    · cases s2 : nameOk m.parent
      · simp -dsimp only [go_sem, F17, e_may, r_may, c_name h1 m.folder l1, c_name h1 m.by' l2, c_name h1 m.parent l3, c_right h2 m.members l4, q1, q2, r1, r2, r3, r4, r8, s2]
        exact e
      cases r5 : decide (m.parent = m.folder)
      rotate_left
      · simp -dsimp only [go_sem, F17, e_may, r_may, c_name h1 m.folder l1, c_name h1 m.by' l2, c_name h1 m.parent l3, c_right h2 m.members l4, q1, q2, r1, r2, r3, r4, r8, s2, r5]
        exact e
      cases q9 : rightP m.members
      · simp -dsimp only [go_sem, F17, e_may, r_may, c_name h1 m.folder l1, c_name h1 m.by' l2, c_name h1 m.parent l3, c_right h2 m.members l4, q1, q2, r1, r2, r3, r4, r8, s2, r5, q9]
        exact e
      cases r6 : decide (0 ≤ m.cut)
      · simp -dsimp only [go_sem, F17, e_may, r_may, c_name h1 m.folder l1, c_name h1 m.by' l2, c_name h1 m.parent l3, c_right h2 m.members l4, q1, q2, r1, r2, r3, r4, r8, s2, r5, q9, r6]
        exact e
      cases r7 : decide (m.cut ≤ m.seq)
      · simp -dsimp only [go_sem, F17, e_may, r_may, c_name h1 m.folder l1, c_name h1 m.by' l2, c_name h1 m.parent l3, c_right h2 m.members l4, q1, q2, r1, r2, r3, r4, r8, s2, r5, q9, r6, r7]
        exact e
      exfalso
      simp only [decide_eq_true_eq, decide_eq_false_iff_not, bne_eq_false_iff_eq, decide_eq_decide] at r1 r2 r3 r4 r5 r6 r7
      exact hM (mayQ_of q1 q2 (by omega) (by omega) (by omega) (by omega) (.inr s2) r5 q9 (by omega) (by omega))
    · skip
      cases r5 : decide (m.parent = m.folder)
      rotate_left
      · simp -dsimp only [go_sem, F17, e_may, r_may, c_name h1 m.folder l1, c_name h1 m.by' l2, c_name h1 m.parent l3, c_right h2 m.members l4, q1, q2, r1, r2, r3, r4, r8, r5]
        exact e
      cases q9 : rightP m.members
      · simp -dsimp only [go_sem, F17, e_may, r_may, c_name h1 m.folder l1, c_name h1 m.by' l2, c_name h1 m.parent l3, c_right h2 m.members l4, q1, q2, r1, r2, r3, r4, r8, r5, q9]
        exact e
      cases r6 : decide (0 ≤ m.cut)
      · simp -dsimp only [go_sem, F17, e_may, r_may, c_name h1 m.folder l1, c_name h1 m.by' l2, c_name h1 m.parent l3, c_right h2 m.members l4, q1, q2, r1, r2, r3, r4, r8, r5, q9, r6]
        exact e
      cases r7 : decide (m.cut ≤ m.seq)
      · simp -dsimp only [go_sem, F17, e_may, r_may, c_name h1 m.folder l1, c_name h1 m.by' l2, c_name h1 m.parent l3, c_right h2 m.members l4, q1, q2, r1, r2, r3, r4, r8, r5, q9, r6, r7]
        exact e
      exfalso
      simp only [decide_eq_true_eq, decide_eq_false_iff_not, bne_eq_false_iff_eq, decide_eq_decide] at r1 r2 r3 r4 r5 r6 r7
      exact hM (mayQ_of q1 q2 (by omega) (by omega) (by omega) (by omega) (.inl (of_decide_eq_true r8)) r5 q9 (by omega) (by omega))
theorem ok_mayR {E : Env} (hp : E.prim 8 = none) (hf : E.F 8 = some F8) (h1 : E.prim 24 = some fun _ => p_nameR) (h2 : E.prim 25 = some fun _ => p_rightR) : OkS E 8 e_mayR (gd k_mayR r_mayR) := by
  refine OkS.code hp hf (fun _ => rfl) fun m ⟨l1, l2, l3, l4, l5⟩ => ?_
  by_cases hM : MayQ m
  · obtain ⟨q1, q2, q3, q4, q5, q6, q7, q8, q9, q10, q11⟩ := id hM
    have r1 : decide (m.seq < 1) = false := decide_eq_false (by omega)
    have r2 : decide (1099511627776 < m.seq) = false := decide_eq_false (by omega)
    have r4 : decide ((64 : Int) < ((m.prev.length : Nat) : Int)) = false := decide_eq_false (by omega)
    have r5 : decide (m.parent = m.folder) = false := decide_eq_false q8
    have r6 : decide (m.cut < 0) = false := decide_eq_false (by omega)
    have r7 : decide (m.seq < m.cut) = false := decide_eq_false (by omega)
    have e : mayP m = true := decide_eq_true hM
    have hseq : (decide (m.seq = 1) = true ∧ decide ((0 : Int) < ((m.prev.length : Nat) : Int)) = false ∧ decide (1 < m.seq) = false) ∨ (decide (m.seq = 1) = false ∧ decide (1 < m.seq) = true ∧ decide (((m.prev.length : Nat) : Int) = 0) = false) := by
      simp only [decide_eq_true_eq, decide_eq_false_iff_not]; omega
    rcases hseq with ⟨t1, t2, t3⟩ | ⟨t1, t2, t3⟩
    all_goals
      rcases q7 with q7 | q7
      · have r8 : decide (m.parent = []) = true := decide_eq_true q7
        simp -dsimp only [go_sem, F8, e_mayR, r_mayR, c_nameR h1 m.folder l1, c_nameR h1 m.by' l2, c_nameR h1 m.parent l3, c_rightR h2 m.members l4, q1, q2, q9, r1, r2, r4, r5, r6, r7, r8, t1, t2, t3, e]
      · have r8 : decide (m.parent = []) = false := decide_eq_false (nameOk_ne q7)
        simp -dsimp only [go_sem, F8, e_mayR, r_mayR, c_nameR h1 m.folder l1, c_nameR h1 m.by' l2, c_nameR h1 m.parent l3, c_rightR h2 m.members l4, q1, q2, q7, q9, r1, r2, r4, r5, r6, r7, r8, t1, t2, t3, e]
  · have e : AV.bool false = AV.bool (mayP m) := by rw [mayP, decide_eq_false hM]
    cases q1 : nameOk m.folder
    · simp -dsimp only [go_sem, F8, e_mayR, r_mayR, c_nameR h1 m.folder l1, c_nameR h1 m.by' l2, c_nameR h1 m.parent l3, c_rightR h2 m.members l4, q1]
      exact e
    cases q2 : nameOk m.by'
    · simp -dsimp only [go_sem, F8, e_mayR, r_mayR, c_nameR h1 m.folder l1, c_nameR h1 m.by' l2, c_nameR h1 m.parent l3, c_rightR h2 m.members l4, q1, q2]
      exact e
    cases q9 : rightP m.members
    · simp -dsimp only [go_sem, F8, e_mayR, r_mayR, c_nameR h1 m.folder l1, c_nameR h1 m.by' l2, c_nameR h1 m.parent l3, c_rightR h2 m.members l4, q1, q2, q9]
      exact e
    cases r1 : decide (m.seq < 1)
    rotate_left
    · simp -dsimp only [go_sem, F8, e_mayR, r_mayR, c_nameR h1 m.folder l1, c_nameR h1 m.by' l2, c_nameR h1 m.parent l3, c_rightR h2 m.members l4, q1, q2, q9, r1]
      exact e
    cases r2 : decide (1099511627776 < m.seq)
    rotate_left
    · simp -dsimp only [go_sem, F8, e_mayR, r_mayR, c_nameR h1 m.folder l1, c_nameR h1 m.by' l2, c_nameR h1 m.parent l3, c_rightR h2 m.members l4, q1, q2, q9, r1, r2]
      exact e
    cases r6 : decide (m.cut < 0)
    rotate_left
    · simp -dsimp only [go_sem, F8, e_mayR, r_mayR, c_nameR h1 m.folder l1, c_nameR h1 m.by' l2, c_nameR h1 m.parent l3, c_rightR h2 m.members l4, q1, q2, q9, r1, r2, r6]
      exact e
    cases r7 : decide (m.seq < m.cut)
    rotate_left
    · simp -dsimp only [go_sem, F8, e_mayR, r_mayR, c_nameR h1 m.folder l1, c_nameR h1 m.by' l2, c_nameR h1 m.parent l3, c_rightR h2 m.members l4, q1, q2, q9, r1, r2, r6, r7]
      exact e
    cases t1 : decide (m.seq = 1)
    · have t2 : decide (1 < m.seq) = true := by
        simp only [decide_eq_true_eq, decide_eq_false_iff_not] at r1 t1 ⊢; omega
      cases t3 : decide (((m.prev.length : Nat) : Int) = 0)
      rotate_left
      · simp -dsimp only [go_sem, F8, e_mayR, r_mayR, c_nameR h1 m.folder l1, c_nameR h1 m.by' l2, c_nameR h1 m.parent l3, c_rightR h2 m.members l4, q1, q2, q9, r1, r2, r6, r7, t1, t2, t3]
        exact e
      cases t4 : decide ((64 : Int) < ((m.prev.length : Nat) : Int))
      rotate_left
      · simp -dsimp only [go_sem, F8, e_mayR, r_mayR, c_nameR h1 m.folder l1, c_nameR h1 m.by' l2, c_nameR h1 m.parent l3, c_rightR h2 m.members l4, q1, q2, q9, r1, r2, r6, r7, t1, t2, t3, t4]
        exact e
      cases r8 : decide (m.parent = [])
      · cases s2 : nameOk m.parent
        · simp -dsimp only [go_sem, F8, e_mayR, r_mayR, c_nameR h1 m.folder l1, c_nameR h1 m.by' l2, c_nameR h1 m.parent l3, c_rightR h2 m.members l4, q1, q2, q9, r1, r2, r6, r7, t1, t2, t3, t4, r8, s2]
          exact e
        cases r5 : decide (m.parent = m.folder)
        rotate_left
        · simp -dsimp only [go_sem, F8, e_mayR, r_mayR, c_nameR h1 m.folder l1, c_nameR h1 m.by' l2, c_nameR h1 m.parent l3, c_rightR h2 m.members l4, q1, q2, q9, r1, r2, r6, r7, t1, t2, t3, t4, r8, s2, r5]
          exact e
        exfalso
        simp only [decide_eq_true_eq, decide_eq_false_iff_not] at r1 r2 r6 r7 t1 t2 t3 t4
        exact hM (mayQ_of q1 q2 (by omega) (by omega) (by omega) (by omega) (.inr s2) (of_decide_eq_false r5) q9 (by omega) (by omega))
      · skip
        exfalso
        simp only [decide_eq_true_eq, decide_eq_false_iff_not] at r1 r2 r6 r7 t1 t2 t3 t4
        exact hM (mayQ_of q1 q2 (by omega) (by omega) (by omega) (by omega) (.inl (of_decide_eq_true r8)) (fun q => nameOk_ne q1 (q.symm.trans (of_decide_eq_true r8))) q9 (by omega) (by omega))
    · have t2 : decide (1 < m.seq) = false := by
        simp only [decide_eq_true_eq, decide_eq_false_iff_not] at t1 ⊢; omega
      cases t3 : decide ((0 : Int) < ((m.prev.length : Nat) : Int))
      rotate_left
      · simp -dsimp only [go_sem, F8, e_mayR, r_mayR, c_nameR h1 m.folder l1, c_nameR h1 m.by' l2, c_nameR h1 m.parent l3, c_rightR h2 m.members l4, q1, q2, q9, r1, r2, r6, r7, t1, t2, t3]
        exact e
      cases r8 : decide (m.parent = [])
      · cases s2 : nameOk m.parent
        · simp -dsimp only [go_sem, F8, e_mayR, r_mayR, c_nameR h1 m.folder l1, c_nameR h1 m.by' l2, c_nameR h1 m.parent l3, c_rightR h2 m.members l4, q1, q2, q9, r1, r2, r6, r7, t1, t2, t3, r8, s2]
          exact e
        cases r5 : decide (m.parent = m.folder)
        rotate_left
        · simp -dsimp only [go_sem, F8, e_mayR, r_mayR, c_nameR h1 m.folder l1, c_nameR h1 m.by' l2, c_nameR h1 m.parent l3, c_rightR h2 m.members l4, q1, q2, q9, r1, r2, r6, r7, t1, t2, t3, r8, s2, r5]
          exact e
        exfalso
        simp only [decide_eq_true_eq, decide_eq_false_iff_not] at r1 r2 r6 r7 t1 t2 t3
        exact hM (mayQ_of q1 q2 (by omega) (by omega) (by omega) (by omega) (.inr s2) (of_decide_eq_false r5) q9 (by omega) (by omega))
      · skip
        exfalso
        simp only [decide_eq_true_eq, decide_eq_false_iff_not] at r1 r2 r6 r7 t1 t2 t3
        exact hM (mayQ_of q1 q2 (by omega) (by omega) (by omega) (by omega) (.inl (of_decide_eq_true r8)) (fun q => nameOk_ne q1 (q.symm.trans (of_decide_eq_true r8))) q9 (by omega) (by omega))
end Go.Proofs.Ytaajlbbooneiiaa.Avm
