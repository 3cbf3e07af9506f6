/- Data of the seat: members, names. -/
import Derived.Test.YtmijfhepagobdaaA28
set_option linter.unusedVariables false
set_option linter.unusedSimpArgs false
namespace Go.Proofs.Ytmijfhepagobdaa.Avm
abbrev Str := List UInt8

theorem rec_inj {α : Type} [Rec α] {a b : α} : Rec.c a = Rec.c b ↔ a = b := ⟨Rec.inj a b, fun h => by rw [h]⟩

structure Mem where
  name : Str
  role : Int
instance : Rec Mem where
  sz := 2
  c m := [.str m.name, .int .i64 m.role]
  len _ := rfl
  pos := by decide
  inj a b h := by cases a; cases b; simpa using h
  pure _ := rfl
@[go_sem] theorem c_mem (m : Mem) : Rec.c m = [.str m.name, .int .i64 m.role] := rfl
@[go_sem] theorem z_mem : Rec.sz Mem = 2 := rfl
instance : Rec Str where
  sz := 1
  c s := [.str s]
  len _ := rfl
  pos := by decide
  inj a b h := by simpa using h
  pure _ := rfl
@[go_sem] theorem c_Str (s : Str) : Rec.c s = [.str s] := rfl
@[go_sem] theorem z_Str : Rec.sz Str = 1 := rfl
instance : Rec Int where
  sz := 1
  c n := [.int .i64 n]
  len _ := rfl
  pos := by decide
  inj a b h := by simpa using h
  pure _ := rfl
@[go_sem] theorem c_Int (n : Int) : Rec.c n = [.int .i64 n] := rfl
@[go_sem] theorem z_Int : Rec.sz Int = 1 := rfl
instance : Rec UInt8 where
  sz := 1
  c n := [.int .u8 n.toNat]
  len _ := rfl
  pos := by decide
  inj a b h := by simp at h; exact UInt8.toNat_inj.1 (by omega)
  pure _ := rfl
@[go_sem] theorem c_u8 (n : UInt8) : Rec.c n = [.int .u8 n.toNat] := rfl
@[go_sem] theorem z_u8 : Rec.sz UInt8 = 1 := rfl
@[go_sem] theorem csl_i1 (a : Int) : AV.csl [.int .i64 a] 1 = enc [a] := rfl
@[go_sem] theorem csl_i2 (a b : Int) : AV.csl [.int .i64 a, .int .i64 b] 2 = enc [a, b] := rfl
@[go_sem] theorem csl_s1 (a : Str) : AV.csl [.str a] 1 = enc [a] := rfl
@[go_sem] theorem csl_m1 (a : Str) (n : Int) : AV.csl [.str a, .int .i64 n] 1 = enc [Mem.mk a n] := rfl

/-! texts in order -/
theorem bl_irrefl : ∀ a : Str, Op.bytesLess a a = false
  | [] => rfl
  | a :: x => by simp [Op.bytesLess, bl_irrefl x]
theorem bl_trans : ∀ a b c : Str, Op.bytesLess a b = true → Op.bytesLess b c = true → Op.bytesLess a c = true
  | _, [], _, h, _ => by simp [Op.bytesLess] at h
  | _, _ :: _, [], _, h => by simp [Op.bytesLess] at h
  | [], _ :: _, _ :: _, _, _ => rfl
  | a :: x, b :: y, c :: z, h, k => by
    simp only [Op.bytesLess, Bool.or_eq_true, decide_eq_true_eq, Bool.and_eq_true, beq_iff_eq] at h k ⊢
    rcases h with h | ⟨rfl, h⟩ <;> rcases k with k | ⟨rfl, k⟩
    · exact .inl (UInt8.lt_trans h k)
    · exact .inl h
    · exact .inl k
    · exact .inr ⟨rfl, bl_trans x y z h k⟩
theorem bl_tri : ∀ a b : Str, Op.bytesLess a b = false → Op.bytesLess b a = false → a = b
  | [], [], _, _ => rfl
  | [], _ :: _, h, _ => by simp [Op.bytesLess] at h
  | _ :: _, [], _, h => by simp [Op.bytesLess] at h
  | a :: x, b :: y, h, k => by
    simp only [Op.bytesLess, Bool.or_eq_false_iff, decide_eq_false_iff_not, Bool.and_eq_false_iff, beq_eq_false_iff_ne] at h k
    have hab : a = b := UInt8.le_antisymm (UInt8.not_lt.1 k.1) (UInt8.not_lt.1 h.1)
    subst hab
    rw [bl_tri x y (h.2.resolve_left (by simp)) (k.2.resolve_left (by simp))]
theorem bl_asymm {a b : Str} (h : Op.bytesLess a b = true) : Op.bytesLess b a = false := by
  cases k : Op.bytesLess b a with
  | false => rfl
  | true => have := bl_trans a b a h k; rw [bl_irrefl] at this; cases this

/-! what the functions answer -/
def isRole (r : Int) : Bool := decide (1 ≤ r ∧ r ≤ 4)
def nameCh (c : UInt8) : Bool := decide ((97 ≤ c.toNat ∧ c.toNat ≤ 122) ∨ (48 ≤ c.toNat ∧ c.toNat ≤ 57))
def nameOk (s : Str) : Bool := s.all nameCh && decide (1 ≤ s.length ∧ s.length ≤ 12)
def idxP {α : Type} (p : α → Bool) : Nat → List α → Int
  | _, [] => -1
  | i, m :: l => if p m = true then i else idxP p (i + 1) l
def atP (l : List Mem) (name : Str) : Int := idxP (fun m => decide (m.name = name)) 0 l
def ofP : List Mem → Str → Int
  | [], _ => 0
  | m :: l, name => if m.name = name then m.role else ofP l name
def withP (l : List Mem) (least : Int) : List Str := (l.filter fun m => decide (least ≤ m.role)).map (·.name)
def maxP : List Int → Int
  | [] => 0
  | a :: l => l.foldl (fun x y => if y > x then y else x) a
def highP (l : List Mem) (by' : Str) (rs : List Int) : Bool := decide (3 ≤ maxP rs) && decide (ofP l by' < 4)
def ltO : Option Str → Str → Bool
  | none, _ => true
  | some q, n => Op.bytesLess q n
def okFrom : Option Str → List Mem → Bool
  | _, [] => true
  | p, m :: l => nameOk m.name && isRole m.role && ltO p m.name && okFrom (some m.name) l
def ownersP (l : List Mem) : Nat := (withP l 4).length
def rightP (l : List Mem) : Bool := okFrom none l && decide (l.length ≤ 8) && decide (0 < ownersP l)
def cmpS (a b : Str) : Int := if Op.bytesLess a b = true then -1 else if a = b then 0 else 1
def differP (was now : List Mem) : List Str := ((was.filter fun m => decide (ofP now m.name ≠ m.role)).map (·.name)) ++ ((now.filter fun m => decide (ofP was m.name = 0)).map (·.name))

def e_is : Int → List AV := fun r => [.int .i64 r]
def k_is : Int → Prop := fun r => True
def r_is : Int → AV := fun r => .bool (isRole r)
noncomputable def p_is : List AV → Store → Option (AV × Store) := primS e_is (gd k_is r_is)
theorem i_is : Inj e_is := by
  intro r1 r2 h
  simpa only [e_is, enc_inj, rec_inj, AV.str.injEq, AV.int.injEq, AV.bool.injEq, AV.agg.injEq, AV.ptr.injEq, AV.fn.injEq, List.cons.injEq, and_true, true_and, Prod.mk.injEq] using h
theorem c_is {E : Env} (h : E.prim 48 = some fun _ => p_is) (r : Int) {S : Store} {K : AV → Store → Prop} {d : Dm K} : SpD E 48 [.int .i64 r] S K d = K (.bool (isRole r)) S :=
  callS h i_is (a := r) (by simp only [e_is, rdSL_cons, rdSL_nil, rdS_int, rdS_bool, rdS_str, enc_rdS, rdS_fn0, rdS_csl0, rdS_rec, rdSL_rec, rdS_agg, rdS_tup, Option.bind_some, Option.map_some]) trivial
theorem c_is' {E : Env} (h : E.prim 48 = some fun _ => p_is) {S : Store} {x0 : AV} {r : Int} (h0 : rdS S x0 = some (.int .i64 r)) {K : AV → Store → Prop} {d : Dm K} : SpD E 48 [x0] S K d = K (.bool (isRole r)) S :=
  callS h i_is (a := r) (by simp only [e_is, rdSL, h0, Option.bind_some, Option.map_some]) trivial
def e_name : Str → List AV := fun s => [.str s]
def k_name : Str → Prop := fun s => s.length ≤ 9223372036854775807
def r_name : Str → AV := fun s => .bool (nameOk s)
noncomputable def p_name : List AV → Store → Option (AV × Store) := primS e_name (gd k_name r_name)
theorem i_name : Inj e_name := by
  intro s1 s2 h
  simpa only [e_name, enc_inj, rec_inj, AV.str.injEq, AV.int.injEq, AV.bool.injEq, AV.agg.injEq, AV.ptr.injEq, AV.fn.injEq, List.cons.injEq, and_true, true_and, Prod.mk.injEq] using h
theorem c_name {E : Env} (h : E.prim 32 = some fun _ => p_name) (s : Str) (hk : s.length ≤ 9223372036854775807) {S : Store} {K : AV → Store → Prop} {d : Dm K} : SpD E 32 [.str s] S K d = K (.bool (nameOk s)) S :=
  callS h i_name (a := s) (by simp only [e_name, rdSL_cons, rdSL_nil, rdS_int, rdS_bool, rdS_str, enc_rdS, rdS_fn0, rdS_csl0, rdS_rec, rdSL_rec, rdS_agg, rdS_tup, Option.bind_some, Option.map_some]) hk
theorem c_name' {E : Env} (h : E.prim 32 = some fun _ => p_name) {S : Store} {x0 : AV} {s : Str} (h0 : rdS S x0 = some (.str s)) (hk : s.length ≤ 9223372036854775807) {K : AV → Store → Prop} {d : Dm K} : SpD E 32 [x0] S K d = K (.bool (nameOk s)) S :=
  callS h i_name (a := s) (by simp only [e_name, rdSL, h0, Option.bind_some, Option.map_some]) hk
def e_nameR : Str → List AV := fun s => [.str s]
def k_nameR : Str → Prop := fun s => s.length ≤ 9223372036854775807
def r_nameR : Str → AV := fun s => .bool (nameOk s)
noncomputable def p_nameR : List AV → Store → Option (AV × Store) := primS e_nameR (gd k_nameR r_nameR)
theorem i_nameR : Inj e_nameR := by
  intro s1 s2 h
  simpa only [e_nameR, enc_inj, rec_inj, AV.str.injEq, AV.int.injEq, AV.bool.injEq, AV.agg.injEq, AV.ptr.injEq, AV.fn.injEq, List.cons.injEq, and_true, true_and, Prod.mk.injEq] using h
theorem c_nameR {E : Env} (h : E.prim 40 = some fun _ => p_nameR) (s : Str) (hk : s.length ≤ 9223372036854775807) {S : Store} {K : AV → Store → Prop} {d : Dm K} : SpD E 40 [.str s] S K d = K (.bool (nameOk s)) S :=
  callS h i_nameR (a := s) (by simp only [e_nameR, rdSL_cons, rdSL_nil, rdS_int, rdS_bool, rdS_str, enc_rdS, rdS_fn0, rdS_csl0, rdS_rec, rdSL_rec, rdS_agg, rdS_tup, Option.bind_some, Option.map_some]) hk
theorem c_nameR' {E : Env} (h : E.prim 40 = some fun _ => p_nameR) {S : Store} {x0 : AV} {s : Str} (h0 : rdS S x0 = some (.str s)) (hk : s.length ≤ 9223372036854775807) {K : AV → Store → Prop} {d : Dm K} : SpD E 40 [x0] S K d = K (.bool (nameOk s)) S :=
  callS h i_nameR (a := s) (by simp only [e_nameR, rdSL, h0, Option.bind_some, Option.map_some]) hk
def e_of : (List Mem) × Str → List AV := fun | (l, n) => [enc l, .str n]
def k_of : (List Mem) × Str → Prop := fun | (l, n) => l.length ≤ 1000000
def r_of : (List Mem) × Str → AV := fun | (l, n) => .int .i64 (ofP l n)
noncomputable def p_of : List AV → Store → Option (AV × Store) := primS e_of (gd k_of r_of)
theorem i_of : Inj e_of := by
  rintro ⟨l1, n1⟩ ⟨l2, n2⟩ h
  simpa only [e_of, enc_inj, rec_inj, AV.str.injEq, AV.int.injEq, AV.bool.injEq, AV.agg.injEq, AV.ptr.injEq, AV.fn.injEq, List.cons.injEq, and_true, true_and, Prod.mk.injEq] using h
theorem c_of {E : Env} (h : E.prim 34 = some fun _ => p_of) (l : List Mem) (n : Str) (hk : l.length ≤ 1000000) {S : Store} {K : AV → Store → Prop} {d : Dm K} : SpD E 34 [enc l, .str n] S K d = K (.int .i64 (ofP l n)) S :=
  callS h i_of (a := (l, n)) (by simp only [e_of, rdSL_cons, rdSL_nil, rdS_int, rdS_bool, rdS_str, enc_rdS, rdS_fn0, rdS_csl0, rdS_rec, rdSL_rec, rdS_agg, rdS_tup, Option.bind_some, Option.map_some]) hk
theorem c_of' {E : Env} (h : E.prim 34 = some fun _ => p_of) {S : Store} {x0 x1 : AV} {l : List Mem} {n : Str} (h0 : rdS S x0 = some (enc l)) (h1 : rdS S x1 = some (.str n)) (hk : l.length ≤ 1000000) {K : AV → Store → Prop} {d : Dm K} : SpD E 34 [x0, x1] S K d = K (.int .i64 (ofP l n)) S :=
  callS h i_of (a := (l, n)) (by simp only [e_of, rdSL, h0, h1, Option.bind_some, Option.map_some]) hk
def e_at : (List Mem) × Str → List AV := fun | (l, n) => [enc l, .str n]
def k_at : (List Mem) × Str → Prop := fun | (l, n) => l.length ≤ 1000000
def r_at : (List Mem) × Str → AV := fun | (l, n) => .int .i64 (atP l n)
noncomputable def p_at : List AV → Store → Option (AV × Store) := primS e_at (gd k_at r_at)
theorem i_at : Inj e_at := by
  rintro ⟨l1, n1⟩ ⟨l2, n2⟩ h
  simpa only [e_at, enc_inj, rec_inj, AV.str.injEq, AV.int.injEq, AV.bool.injEq, AV.agg.injEq, AV.ptr.injEq, AV.fn.injEq, List.cons.injEq, and_true, true_and, Prod.mk.injEq] using h
theorem c_at {E : Env} (h : E.prim 37 = some fun _ => p_at) (l : List Mem) (n : Str) (hk : l.length ≤ 1000000) {S : Store} {K : AV → Store → Prop} {d : Dm K} : SpD E 37 [enc l, .str n] S K d = K (.int .i64 (atP l n)) S :=
  callS h i_at (a := (l, n)) (by simp only [e_at, rdSL_cons, rdSL_nil, rdS_int, rdS_bool, rdS_str, enc_rdS, rdS_fn0, rdS_csl0, rdS_rec, rdSL_rec, rdS_agg, rdS_tup, Option.bind_some, Option.map_some]) hk
theorem c_at' {E : Env} (h : E.prim 37 = some fun _ => p_at) {S : Store} {x0 x1 : AV} {l : List Mem} {n : Str} (h0 : rdS S x0 = some (enc l)) (h1 : rdS S x1 = some (.str n)) (hk : l.length ≤ 1000000) {K : AV → Store → Prop} {d : Dm K} : SpD E 37 [x0, x1] S K d = K (.int .i64 (atP l n)) S :=
  callS h i_at (a := (l, n)) (by simp only [e_at, rdSL, h0, h1, Option.bind_some, Option.map_some]) hk
def e_with : (List Mem) × Int → List AV := fun | (l, n) => [enc l, .int .i64 n]
def k_with : (List Mem) × Int → Prop := fun | (l, n) => l.length ≤ 1000000
def r_with : (List Mem) × Int → AV := fun | (l, n) => enc (withP l n)
noncomputable def p_with : List AV → Store → Option (AV × Store) := primG e_with (gd k_with r_with)
theorem i_with : Inj e_with := by
  rintro ⟨l1, n1⟩ ⟨l2, n2⟩ h
  simpa only [e_with, enc_inj, rec_inj, AV.str.injEq, AV.int.injEq, AV.bool.injEq, AV.agg.injEq, AV.ptr.injEq, AV.fn.injEq, List.cons.injEq, and_true, true_and, Prod.mk.injEq] using h
theorem c_with {E : Env} (h : E.prim 64 = some fun _ => p_with) (l : List Mem) (n : Int) (hk : l.length ≤ 1000000) {S : Store} {K : AV → Store → Prop} {d : Dm K} : SpD E 64 [enc l, .int .i64 n] S K d = K (enc (withP l n)) S := by
  have := callG h i_with (a := (l, n)) (S := S) (args := [enc l, .int .i64 n]) (K := K) (d := d) (by simp only [e_with, rdSL_cons, rdSL_nil, rdS_int, rdS_bool, rdS_str, enc_rdS, rdS_fn0, rdS_csl0, rdS_rec, rdSL_rec, rdS_agg, rdS_tup, Option.bind_some, Option.map_some]) hk
  simpa only [r_with, topL_cons, topL_nil, top_int, top_bool, top_str, top_csl, enc_top, top_agg, top_rec, top_fn, List.nil_append, killL_nil] using this
theorem c_with' {E : Env} (h : E.prim 64 = some fun _ => p_with) {S : Store} {x0 x1 : AV} {l : List Mem} {n : Int} (h0 : rdS S x0 = some (enc l)) (h1 : rdS S x1 = some (.int .i64 n)) (hk : l.length ≤ 1000000) {K : AV → Store → Prop} {d : Dm K} : SpD E 64 [x0, x1] S K d = K (enc (withP l n)) (killL (topIdsL [x0, x1]) S) :=
  callG h i_with (a := (l, n)) (by simp only [e_with, rdSL, h0, h1, Option.bind_some, Option.map_some]) hk
def e_owners : List Mem → List AV := fun l => [enc l]
def k_owners : List Mem → Prop := fun l => l.length ≤ 1000000
def r_owners : List Mem → AV := fun l => .int .i64 (ownersP l)
noncomputable def p_owners : List AV → Store → Option (AV × Store) := primS e_owners (gd k_owners r_owners)
theorem i_owners : Inj e_owners := by
  intro l1 l2 h
  simpa only [e_owners, enc_inj, rec_inj, AV.str.injEq, AV.int.injEq, AV.bool.injEq, AV.agg.injEq, AV.ptr.injEq, AV.fn.injEq, List.cons.injEq, and_true, true_and, Prod.mk.injEq] using h
theorem c_owners {E : Env} (h : E.prim 49 = some fun _ => p_owners) (l : List Mem) (hk : l.length ≤ 1000000) {S : Store} {K : AV → Store → Prop} {d : Dm K} : SpD E 49 [enc l] S K d = K (.int .i64 (ownersP l)) S :=
  callS h i_owners (a := l) (by simp only [e_owners, rdSL_cons, rdSL_nil, rdS_int, rdS_bool, rdS_str, enc_rdS, rdS_fn0, rdS_csl0, rdS_rec, rdSL_rec, rdS_agg, rdS_tup, Option.bind_some, Option.map_some]) hk
theorem c_owners' {E : Env} (h : E.prim 49 = some fun _ => p_owners) {S : Store} {x0 : AV} {l : List Mem} (h0 : rdS S x0 = some (enc l)) (hk : l.length ≤ 1000000) {K : AV → Store → Prop} {d : Dm K} : SpD E 49 [x0] S K d = K (.int .i64 (ownersP l)) S :=
  callS h i_owners (a := l) (by simp only [e_owners, rdSL, h0, Option.bind_some, Option.map_some]) hk
def e_max : List Int → List AV := fun l => [enc l]
def k_max : List Int → Prop := fun l => l ≠ [] ∧ l.length ≤ 1000000
def r_max : List Int → AV := fun l => .int .i64 (maxP l)
noncomputable def p_max : List AV → Store → Option (AV × Store) := primS e_max (gd k_max r_max)
theorem i_max : Inj e_max := by
  intro l1 l2 h
  simpa only [e_max, enc_inj, rec_inj, AV.str.injEq, AV.int.injEq, AV.bool.injEq, AV.agg.injEq, AV.ptr.injEq, AV.fn.injEq, List.cons.injEq, and_true, true_and, Prod.mk.injEq] using h
theorem c_max {E : Env} (h : E.prim 65 = some fun _ => p_max) (l : List Int) (hk : l ≠ [] ∧ l.length ≤ 1000000) {S : Store} {K : AV → Store → Prop} {d : Dm K} : SpD E 65 [enc l] S K d = K (.int .i64 (maxP l)) S :=
  callS h i_max (a := l) (by simp only [e_max, rdSL_cons, rdSL_nil, rdS_int, rdS_bool, rdS_str, enc_rdS, rdS_fn0, rdS_csl0, rdS_rec, rdSL_rec, rdS_agg, rdS_tup, Option.bind_some, Option.map_some]) hk
theorem c_max' {E : Env} (h : E.prim 65 = some fun _ => p_max) {S : Store} {x0 : AV} {l : List Int} (h0 : rdS S x0 = some (enc l)) (hk : l ≠ [] ∧ l.length ≤ 1000000) {K : AV → Store → Prop} {d : Dm K} : SpD E 65 [x0] S K d = K (.int .i64 (maxP l)) S :=
  callS h i_max (a := l) (by simp only [e_max, rdSL, h0, Option.bind_some, Option.map_some]) hk
def e_high : (List Mem) × Str × (List Int) → List AV := fun | (l, n, r) => [enc l, .str n, enc r]
def k_high : (List Mem) × Str × (List Int) → Prop := fun | (l, n, r) => l.length ≤ 1000000 ∧ r ≠ [] ∧ r.length ≤ 1000000
def r_high : (List Mem) × Str × (List Int) → AV := fun | (l, n, r) => .bool (highP l n r)
noncomputable def p_high : List AV → Store → Option (AV × Store) := primS e_high (gd k_high r_high)
theorem i_high : Inj e_high := by
  rintro ⟨l1, n1, r1⟩ ⟨l2, n2, r2⟩ h
  simpa only [e_high, enc_inj, rec_inj, AV.str.injEq, AV.int.injEq, AV.bool.injEq, AV.agg.injEq, AV.ptr.injEq, AV.fn.injEq, List.cons.injEq, and_true, true_and, Prod.mk.injEq] using h
theorem c_high {E : Env} (h : E.prim 50 = some fun _ => p_high) (l : List Mem) (n : Str) (r : List Int) (hk : l.length ≤ 1000000 ∧ r ≠ [] ∧ r.length ≤ 1000000) {S : Store} {K : AV → Store → Prop} {d : Dm K} : SpD E 50 [enc l, .str n, enc r] S K d = K (.bool (highP l n r)) S :=
  callS h i_high (a := (l, n, r)) (by simp only [e_high, rdSL_cons, rdSL_nil, rdS_int, rdS_bool, rdS_str, enc_rdS, rdS_fn0, rdS_csl0, rdS_rec, rdSL_rec, rdS_agg, rdS_tup, Option.bind_some, Option.map_some]) hk
theorem c_high' {E : Env} (h : E.prim 50 = some fun _ => p_high) {S : Store} {x0 x1 x2 : AV} {l : List Mem} {n : Str} {r : List Int} (h0 : rdS S x0 = some (enc l)) (h1 : rdS S x1 = some (.str n)) (h2 : rdS S x2 = some (enc r)) (hk : l.length ≤ 1000000 ∧ r ≠ [] ∧ r.length ≤ 1000000) {K : AV → Store → Prop} {d : Dm K} : SpD E 50 [x0, x1, x2] S K d = K (.bool (highP l n r)) S :=
  callS h i_high (a := (l, n, r)) (by simp only [e_high, rdSL, h0, h1, h2, Option.bind_some, Option.map_some]) hk
def long1 (l : List Mem) : Prop := l.length ≤ 1000000 ∧ ∀ m, m ∈ l → m.name.length ≤ 9223372036854775807
def e_right : List Mem → List AV := fun l => [enc l]
def k_right : List Mem → Prop := fun l => long1 l
def r_right : List Mem → AV := fun l => .bool (rightP l)
noncomputable def p_right : List AV → Store → Option (AV × Store) := primS e_right (gd k_right r_right)
theorem i_right : Inj e_right := by
  intro l1 l2 h
  simpa only [e_right, enc_inj, rec_inj, AV.str.injEq, AV.int.injEq, AV.bool.injEq, AV.agg.injEq, AV.ptr.injEq, AV.fn.injEq, List.cons.injEq, and_true, true_and, Prod.mk.injEq] using h
theorem c_right {E : Env} (h : E.prim 33 = some fun _ => p_right) (l : List Mem) (hk : long1 l) {S : Store} {K : AV → Store → Prop} {d : Dm K} : SpD E 33 [enc l] S K d = K (.bool (rightP l)) S :=
  callS h i_right (a := l) (by simp only [e_right, rdSL_cons, rdSL_nil, rdS_int, rdS_bool, rdS_str, enc_rdS, rdS_fn0, rdS_csl0, rdS_rec, rdSL_rec, rdS_agg, rdS_tup, Option.bind_some, Option.map_some]) hk
theorem c_right' {E : Env} (h : E.prim 33 = some fun _ => p_right) {S : Store} {x0 : AV} {l : List Mem} (h0 : rdS S x0 = some (enc l)) (hk : long1 l) {K : AV → Store → Prop} {d : Dm K} : SpD E 33 [x0] S K d = K (.bool (rightP l)) S :=
  callS h i_right (a := l) (by simp only [e_right, rdSL, h0, Option.bind_some, Option.map_some]) hk
def e_isNaN : Str → List AV := fun s => [.str s]
def k_isNaN : Str → Prop := fun s => True
def r_isNaN : Str → AV := fun s => .bool false
noncomputable def p_isNaN : List AV → Store → Option (AV × Store) := primS e_isNaN (gd k_isNaN r_isNaN)
theorem i_isNaN : Inj e_isNaN := by
  intro s1 s2 h
  simpa only [e_isNaN, enc_inj, rec_inj, AV.str.injEq, AV.int.injEq, AV.bool.injEq, AV.agg.injEq, AV.ptr.injEq, AV.fn.injEq, List.cons.injEq, and_true, true_and, Prod.mk.injEq] using h
theorem c_isNaN {E : Env} (h : E.prim 68 = some fun _ => p_isNaN) (s : Str) {S : Store} {K : AV → Store → Prop} {d : Dm K} : SpD E 68 [.str s] S K d = K (.bool false) S :=
  callS h i_isNaN (a := s) (by simp only [e_isNaN, rdSL_cons, rdSL_nil, rdS_int, rdS_bool, rdS_str, enc_rdS, rdS_fn0, rdS_csl0, rdS_rec, rdSL_rec, rdS_agg, rdS_tup, Option.bind_some, Option.map_some]) trivial
theorem c_isNaN' {E : Env} (h : E.prim 68 = some fun _ => p_isNaN) {S : Store} {x0 : AV} {s : Str} (h0 : rdS S x0 = some (.str s)) {K : AV → Store → Prop} {d : Dm K} : SpD E 68 [x0] S K d = K (.bool false) S :=
  callS h i_isNaN (a := s) (by simp only [e_isNaN, rdSL, h0, Option.bind_some, Option.map_some]) trivial
def e_cmp : Str × Str → List AV := fun | (a, b) => [.str a, .str b]
def k_cmp : Str × Str → Prop := fun | (a, b) => True
def r_cmp : Str × Str → AV := fun | (a, b) => .int .i64 (cmpS a b)
noncomputable def p_cmp : List AV → Store → Option (AV × Store) := primS e_cmp (gd k_cmp r_cmp)
theorem i_cmp : Inj e_cmp := by
  rintro ⟨a1, b1⟩ ⟨a2, b2⟩ h
  simpa only [e_cmp, enc_inj, rec_inj, AV.str.injEq, AV.int.injEq, AV.bool.injEq, AV.agg.injEq, AV.ptr.injEq, AV.fn.injEq, List.cons.injEq, and_true, true_and, Prod.mk.injEq] using h
theorem c_cmp {E : Env} (h : E.prim 57 = some fun _ => p_cmp) (a : Str) (b : Str) {S : Store} {K : AV → Store → Prop} {d : Dm K} : SpD E 57 [.str a, .str b] S K d = K (.int .i64 (cmpS a b)) S :=
  callS h i_cmp (a := (a, b)) (by simp only [e_cmp, rdSL_cons, rdSL_nil, rdS_int, rdS_bool, rdS_str, enc_rdS, rdS_fn0, rdS_csl0, rdS_rec, rdSL_rec, rdS_agg, rdS_tup, Option.bind_some, Option.map_some]) trivial
theorem c_cmp' {E : Env} (h : E.prim 57 = some fun _ => p_cmp) {S : Store} {x0 x1 : AV} {a : Str} {b : Str} (h0 : rdS S x0 = some (.str a)) (h1 : rdS S x1 = some (.str b)) {K : AV → Store → Prop} {d : Dm K} : SpD E 57 [x0, x1] S K d = K (.int .i64 (cmpS a b)) S :=
  callS h i_cmp (a := (a, b)) (by simp only [e_cmp, rdSL, h0, h1, Option.bind_some, Option.map_some]) trivial
def e_cmpM : Mem × Mem → List AV := fun | (a, b) => [.agg (Rec.c a), .agg (Rec.c b)]
def k_cmpM : Mem × Mem → Prop := fun | (a, b) => True
def r_cmpM : Mem × Mem → AV := fun | (a, b) => .int .i64 (cmpS a.name b.name)
noncomputable def p_cmpM : List AV → Store → Option (AV × Store) := primS e_cmpM (gd k_cmpM r_cmpM)
theorem i_cmpM : Inj e_cmpM := by
  rintro ⟨a1, b1⟩ ⟨a2, b2⟩ h
  simpa only [e_cmpM, enc_inj, rec_inj, AV.str.injEq, AV.int.injEq, AV.bool.injEq, AV.agg.injEq, AV.ptr.injEq, AV.fn.injEq, List.cons.injEq, and_true, true_and, Prod.mk.injEq] using h
theorem c_cmpM {E : Env} (h : E.prim 56 = some fun _ => p_cmpM) (a : Mem) (b : Mem) {S : Store} {K : AV → Store → Prop} {d : Dm K} : SpD E 56 [.agg (Rec.c a), .agg (Rec.c b)] S K d = K (.int .i64 (cmpS a.name b.name)) S :=
  callS h i_cmpM (a := (a, b)) (by simp only [e_cmpM, rdSL_cons, rdSL_nil, rdS_int, rdS_bool, rdS_str, enc_rdS, rdS_fn0, rdS_csl0, rdS_rec, rdSL_rec, rdS_agg, rdS_tup, Option.bind_some, Option.map_some]) trivial
theorem c_cmpM' {E : Env} (h : E.prim 56 = some fun _ => p_cmpM) {S : Store} {x0 x1 : AV} {a : Mem} {b : Mem} (h0 : rdS S x0 = some (.agg (Rec.c a))) (h1 : rdS S x1 = some (.agg (Rec.c b))) {K : AV → Store → Prop} {d : Dm K} : SpD E 56 [x0, x1] S K d = K (.int .i64 (cmpS a.name b.name)) S :=
  callS h i_cmpM (a := (a, b)) (by simp only [e_cmpM, rdSL, h0, h1, Option.bind_some, Option.map_some]) trivial
theorem x_cmpM {E : Env} (h : E.prim 56 = some fun _ => p_cmpM) (a b : Mem) {S : Store} {K : AV → Store → Prop} {d : Dm K} : SpD E 56 [.agg [.str a.name, .int .i64 a.role], .agg [.str b.name, .int .i64 b.role]] S K d = K (.int .i64 (cmpS a.name b.name)) S := c_cmpM h a b
def e_differ : (List Mem) × (List Mem) → List AV := fun | (l, m) => [enc l, enc m]
def k_differ : (List Mem) × (List Mem) → Prop := fun | (l, m) => l.length ≤ 1000000 ∧ m.length ≤ 1000000
def r_differ : (List Mem) × (List Mem) → AV := fun | (l, m) => enc (differP l m)
noncomputable def p_differ : List AV → Store → Option (AV × Store) := primG e_differ (gd k_differ r_differ)
theorem i_differ : Inj e_differ := by
  rintro ⟨l1, m1⟩ ⟨l2, m2⟩ h
  simpa only [e_differ, enc_inj, rec_inj, AV.str.injEq, AV.int.injEq, AV.bool.injEq, AV.agg.injEq, AV.ptr.injEq, AV.fn.injEq, List.cons.injEq, and_true, true_and, Prod.mk.injEq] using h
theorem c_differ {E : Env} (h : E.prim 35 = some fun _ => p_differ) (l : List Mem) (m : List Mem) (hk : l.length ≤ 1000000 ∧ m.length ≤ 1000000) {S : Store} {K : AV → Store → Prop} {d : Dm K} : SpD E 35 [enc l, enc m] S K d = K (enc (differP l m)) S := by
  have := callG h i_differ (a := (l, m)) (S := S) (args := [enc l, enc m]) (K := K) (d := d) (by simp only [e_differ, rdSL_cons, rdSL_nil, rdS_int, rdS_bool, rdS_str, enc_rdS, rdS_fn0, rdS_csl0, rdS_rec, rdSL_rec, rdS_agg, rdS_tup, Option.bind_some, Option.map_some]) hk
  simpa only [r_differ, topL_cons, topL_nil, top_int, top_bool, top_str, top_csl, enc_top, top_agg, top_rec, top_fn, List.nil_append, killL_nil] using this
theorem c_differ' {E : Env} (h : E.prim 35 = some fun _ => p_differ) {S : Store} {x0 x1 : AV} {l : List Mem} {m : List Mem} (h0 : rdS S x0 = some (enc l)) (h1 : rdS S x1 = some (enc m)) (hk : l.length ≤ 1000000 ∧ m.length ≤ 1000000) {K : AV → Store → Prop} {d : Dm K} : SpD E 35 [x0, x1] S K d = K (enc (differP l m)) (killL (topIdsL [x0, x1]) S) :=
  callG h i_differ (a := (l, m)) (by simp only [e_differ, rdSL, h0, h1, Option.bind_some, Option.map_some]) hk
end Go.Proofs.Ytmijfhepagobdaa.Avm
