/- Small records: what the functions answer; records made. Small records: the document's; lists compared. Small records read. Small records read by the document; the law. Specs: the document's texts of manifests; the law of texts. The law of texts. Specs: the document's reading of manifests; signed bytes split. -/
import Derived.Test.YtaajlbbooneiiaaDoorZ13
set_option linter.unusedVariables false
set_option linter.unusedSimpArgs false
set_option maxRecDepth 10000
namespace Go.Proofs.YtaajlbbooneiiaaDoor.Avm

/-- bytes as a list's element -/
structure Bz where
  b : List UInt8
instance : Rec Bz where
  sz := 1
  c := fun z => [enc z.b]
  len := fun _ => rfl
  pos := by decide
  inj := fun a b h => by
    simp only [List.cons.injEq, enc_inj, and_true] at h
    cases a; cases b; simp only at h; rw [h]
  pure := fun z => rd0L_cons (enc_rd0 z.b) .nil
@[go_sem] theorem c_bz (z : Bz) : Rec.c z = [enc z.b] := rfl
@[go_sem] theorem z_bz : Rec.sz Bz = 1 := rfl
theorem bz_inj {a b : Bz} : a.b = b.b ↔ a = b := by cases a; cases b; simp

def recV (l : List Int) (m : List Bz) : Val := listV (l.map numV ++ m.map fun z => rawV z.b)
def smallP (l : List Int) (m : List Bz) : List UInt8 × Int := if (encodeP (recV l m)).2 = 0 then padP (encodeP (recV l m)).1 120 else ([], (encodeP (recV l m)).2)
def okS (n : Nat) (l : List Val) : Bool := (l.take n).all (fun v => decide (v.kind = 1)) && (l.drop n).all (fun v => decide (v.kind = 2))
def numsS (n : Nat) (l : List Val) : List Int := (l.take n).map (·.num)
def bytsS (n : Nat) (l : List Val) : List Bz := (l.drop n).map fun v => ⟨v.bytes⟩
def readSD (n k : Nat) (d : Val × Int) : List Int × List Bz × Int :=
  if d.2 = 0 ∧ d.1.kind = 3 ∧ d.1.list.length = n + k ∧ okS n d.1.list = true then (numsS n d.1.list, bytsS n d.1.list, 0) else ([], [], 11)
def readS (b : List UInt8) (n k : Nat) : List Int × List Bz × Int := if (unpadP b).2 = 0 ∧ b.length = 120 then readSD n k (decodeP (unpadP b).1) else ([], [], 11)

def e_small : (List Int) × (List Bz) → List AV := fun | (l, m) => [enc l, enc m]
def k_small : (List Int) × (List Bz) → Prop := fun | (l, m) => l.length ≤ 100000 ∧ m.length ≤ 100000
def r_small : (List Int) × (List Bz) → AV := fun | (l, m) => .tup [enc (smallP l m).1, .int .i64 (smallP l m).2]
noncomputable def p_small : List AV → Store → Option (AV × Store) := primG e_small (gd k_small r_small)
theorem i_small : Inj e_small := by
  rintro ⟨l1, m1⟩ ⟨l2, m2⟩ h
  simpa only [e_small, enc_inj, rec_inj, AV.str.injEq, AV.int.injEq, AV.bool.injEq, AV.agg.injEq, AV.ptr.injEq, AV.fn.injEq, List.cons.injEq, and_true, true_and, Prod.mk.injEq] using h
theorem c_small {E : Env} (h : E.prim 13 = some fun _ => p_small) (l : List Int) (m : List Bz) (hk : l.length ≤ 100000 ∧ m.length ≤ 100000) {S : Store} {K : AV → Store → Prop} {d : Dm K} : SpD E 13 [enc l, enc m] S K d = K (.tup [enc (smallP l m).1, .int .i64 (smallP l m).2]) S := by
  have := callG h i_small (a := (l, m)) (S := S) (args := [enc l, enc m]) (K := K) (d := d) (by simp only [e_small, rdSL_cons, rdSL_nil, rdS_int, rdS_bool, rdS_str, enc_rdS, rdS_fn0, rdS_csl0, rdS_rec, rdSL_rec, rdS_agg, rdS_tup, Option.bind_some, Option.map_some]) hk
  simpa only [r_small, topL_cons, topL_nil, top_int, top_bool, top_str, top_csl, enc_top, top_agg, top_rec, top_fn, List.nil_append, killL_nil] using this
theorem c_small' {E : Env} (h : E.prim 13 = some fun _ => p_small) {S : Store} {x0 x1 : AV} {l : List Int} {m : List Bz} (h0 : rdS S x0 = some (enc l)) (h1 : rdS S x1 = some (enc m)) (hk : l.length ≤ 100000 ∧ m.length ≤ 100000) {K : AV → Store → Prop} {d : Dm K} : SpD E 13 [x0, x1] S K d = K (.tup [enc (smallP l m).1, .int .i64 (smallP l m).2]) (killL (topIdsL [x0, x1]) S) :=
  callG h i_small (a := (l, m)) (by simp only [e_small, rdSL, h0, h1, Option.bind_some, Option.map_some]) hk
def e_numbersR : List Int → List AV := fun l => [enc l]
def k_numbersR : List Int → Prop := fun l => l.length ≤ 9223372036854775000
def r_numbersR : List Int → AV := fun l => .bool (numsOk l)
noncomputable def p_numbersR : List AV → Store → Option (AV × Store) := primS e_numbersR (gd k_numbersR r_numbersR)
theorem i_numbersR : Inj e_numbersR := by
  intro l1 l2 h
  simpa only [e_numbersR, enc_inj, rec_inj, AV.str.injEq, AV.int.injEq, AV.bool.injEq, AV.agg.injEq, AV.ptr.injEq, AV.fn.injEq, List.cons.injEq, and_true, true_and, Prod.mk.injEq] using h
theorem c_numbersR {E : Env} (h : E.prim 14 = some fun _ => p_numbersR) (l : List Int) (hk : l.length ≤ 9223372036854775000) {S : Store} {K : AV → Store → Prop} {d : Dm K} : SpD E 14 [enc l] S K d = K (.bool (numsOk l)) S :=
  callS h i_numbersR (a := l) (by simp only [e_numbersR, rdSL_cons, rdSL_nil, rdS_int, rdS_bool, rdS_str, enc_rdS, rdS_fn0, rdS_csl0, rdS_rec, rdSL_rec, rdS_agg, rdS_tup, Option.bind_some, Option.map_some]) hk
theorem c_numbersR' {E : Env} (h : E.prim 14 = some fun _ => p_numbersR) {S : Store} {x0 : AV} {l : List Int} (h0 : rdS S x0 = some (enc l)) (hk : l.length ≤ 9223372036854775000) {K : AV → Store → Prop} {d : Dm K} : SpD E 14 [x0] S K d = K (.bool (numsOk l)) S :=
  callS h i_numbersR (a := l) (by simp only [e_numbersR, rdSL, h0, Option.bind_some, Option.map_some]) hk
def e_recordR : (List Int) × (List Bz) → List AV := fun | (l, m) => [enc l, enc m]
def k_recordR : (List Int) × (List Bz) → Prop := fun | (l, m) => rightV (recV l m)
def r_recordR : (List Int) × (List Bz) → AV := fun | (l, m) => enc (bytesA (recV l m))
noncomputable def p_recordR : List AV → Store → Option (AV × Store) := primG e_recordR (gd k_recordR r_recordR)
theorem i_recordR : Inj e_recordR := by
  rintro ⟨l1, m1⟩ ⟨l2, m2⟩ h
  simpa only [e_recordR, enc_inj, rec_inj, AV.str.injEq, AV.int.injEq, AV.bool.injEq, AV.agg.injEq, AV.ptr.injEq, AV.fn.injEq, List.cons.injEq, and_true, true_and, Prod.mk.injEq] using h
theorem c_recordR {E : Env} (h : E.prim 15 = some fun _ => p_recordR) (l : List Int) (m : List Bz) (hk : rightV (recV l m)) {S : Store} {K : AV → Store → Prop} {d : Dm K} : SpD E 15 [enc l, enc m] S K d = K (enc (bytesA (recV l m))) S := by
  have := callG h i_recordR (a := (l, m)) (S := S) (args := [enc l, enc m]) (K := K) (d := d) (by simp only [e_recordR, rdSL_cons, rdSL_nil, rdS_int, rdS_bool, rdS_str, enc_rdS, rdS_fn0, rdS_csl0, rdS_rec, rdSL_rec, rdS_agg, rdS_tup, Option.bind_some, Option.map_some]) hk
  simpa only [r_recordR, topL_cons, topL_nil, top_int, top_bool, top_str, top_csl, enc_top, top_agg, top_rec, top_fn, List.nil_append, killL_nil] using this
theorem c_recordR' {E : Env} (h : E.prim 15 = some fun _ => p_recordR) {S : Store} {x0 x1 : AV} {l : List Int} {m : List Bz} (h0 : rdS S x0 = some (enc l)) (h1 : rdS S x1 = some (enc m)) (hk : rightV (recV l m)) {K : AV → Store → Prop} {d : Dm K} : SpD E 15 [x0, x1] S K d = K (enc (bytesA (recV l m))) (killL (topIdsL [x0, x1]) S) :=
  callG h i_recordR (a := (l, m)) (by simp only [e_recordR, rdSL, h0, h1, Option.bind_some, Option.map_some]) hk
def e_readS : (List UInt8) × Nat × Nat → List AV := fun | (b, n, k) => [enc b, .int .i64 n, .int .i64 k]
def k_readS : (List UInt8) × Nat × Nat → Prop := fun | (b, n, k) => b.length ≤ 9223372036854775000 ∧ n ≤ 4096 ∧ k ≤ 4096
def r_readS : (List UInt8) × Nat × Nat → AV := fun | (b, n, k) => .tup [enc (readS b n k).1, enc (readS b n k).2.1, .int .i64 (readS b n k).2.2]
noncomputable def p_readS : List AV → Store → Option (AV × Store) := primG e_readS (gd k_readS r_readS)
theorem i_readS : Inj e_readS := by
  rintro ⟨b1, n1, k1⟩ ⟨b2, n2, k2⟩ h
  simpa only [e_readS, enc_inj, rec_inj, AV.str.injEq, AV.int.injEq, AV.bool.injEq, AV.agg.injEq, AV.ptr.injEq, AV.fn.injEq, List.cons.injEq, and_true, true_and, Prod.mk.injEq, Int.natCast_inj] using h
theorem c_readS {E : Env} (h : E.prim 16 = some fun _ => p_readS) (b : List UInt8) (n : Nat) (k : Nat) (hk : b.length ≤ 9223372036854775000 ∧ n ≤ 4096 ∧ k ≤ 4096) {S : Store} {K : AV → Store → Prop} {d : Dm K} : SpD E 16 [enc b, .int .i64 n, .int .i64 k] S K d = K (.tup [enc (readS b n k).1, enc (readS b n k).2.1, .int .i64 (readS b n k).2.2]) S := by
  have := callG h i_readS (a := (b, n, k)) (S := S) (args := [enc b, .int .i64 n, .int .i64 k]) (K := K) (d := d) (by simp only [e_readS, rdSL_cons, rdSL_nil, rdS_int, rdS_bool, rdS_str, enc_rdS, rdS_fn0, rdS_csl0, rdS_rec, rdSL_rec, rdS_agg, rdS_tup, Option.bind_some, Option.map_some]) hk
  simpa only [r_readS, topL_cons, topL_nil, top_int, top_bool, top_str, top_csl, enc_top, top_agg, top_rec, top_fn, List.nil_append, killL_nil] using this
theorem c_readS' {E : Env} (h : E.prim 16 = some fun _ => p_readS) {S : Store} {x0 x1 x2 : AV} {b : List UInt8} {n : Nat} {k : Nat} (h0 : rdS S x0 = some (enc b)) (h1 : rdS S x1 = some (.int .i64 n)) (h2 : rdS S x2 = some (.int .i64 k)) (hk : b.length ≤ 9223372036854775000 ∧ n ≤ 4096 ∧ k ≤ 4096) {K : AV → Store → Prop} {d : Dm K} : SpD E 16 [x0, x1, x2] S K d = K (.tup [enc (readS b n k).1, enc (readS b n k).2.1, .int .i64 (readS b n k).2.2]) (killL (topIdsL [x0, x1, x2]) S) :=
  callG h i_readS (a := (b, n, k)) (by simp only [e_readS, rdSL, h0, h1, h2, Option.bind_some, Option.map_some]) hk
def e_readSR : (List UInt8) × Nat × Nat → List AV := fun | (b, n, k) => [enc b, .int .i64 n, .int .i64 k]
def k_readSR : (List UInt8) × Nat × Nat → Prop := fun | (b, n, k) => b.length ≤ 9223372036854775000 ∧ n ≤ 4096 ∧ k ≤ 4096
def r_readSR : (List UInt8) × Nat × Nat → AV := fun | (b, n, k) => .tup [enc (readS b n k).1, enc (readS b n k).2.1, .int .i64 (readS b n k).2.2]
noncomputable def p_readSR : List AV → Store → Option (AV × Store) := primG e_readSR (gd k_readSR r_readSR)
theorem i_readSR : Inj e_readSR := by
  rintro ⟨b1, n1, k1⟩ ⟨b2, n2, k2⟩ h
  simpa only [e_readSR, enc_inj, rec_inj, AV.str.injEq, AV.int.injEq, AV.bool.injEq, AV.agg.injEq, AV.ptr.injEq, AV.fn.injEq, List.cons.injEq, and_true, true_and, Prod.mk.injEq, Int.natCast_inj] using h
theorem c_readSR {E : Env} (h : E.prim 19 = some fun _ => p_readSR) (b : List UInt8) (n : Nat) (k : Nat) (hk : b.length ≤ 9223372036854775000 ∧ n ≤ 4096 ∧ k ≤ 4096) {S : Store} {K : AV → Store → Prop} {d : Dm K} : SpD E 19 [enc b, .int .i64 n, .int .i64 k] S K d = K (.tup [enc (readS b n k).1, enc (readS b n k).2.1, .int .i64 (readS b n k).2.2]) S := by
  have := callG h i_readSR (a := (b, n, k)) (S := S) (args := [enc b, .int .i64 n, .int .i64 k]) (K := K) (d := d) (by simp only [e_readSR, rdSL_cons, rdSL_nil, rdS_int, rdS_bool, rdS_str, enc_rdS, rdS_fn0, rdS_csl0, rdS_rec, rdSL_rec, rdS_agg, rdS_tup, Option.bind_some, Option.map_some]) hk
  simpa only [r_readSR, topL_cons, topL_nil, top_int, top_bool, top_str, top_csl, enc_top, top_agg, top_rec, top_fn, List.nil_append, killL_nil] using this
theorem c_readSR' {E : Env} (h : E.prim 19 = some fun _ => p_readSR) {S : Store} {x0 x1 x2 : AV} {b : List UInt8} {n : Nat} {k : Nat} (h0 : rdS S x0 = some (enc b)) (h1 : rdS S x1 = some (.int .i64 n)) (h2 : rdS S x2 = some (.int .i64 k)) (hk : b.length ≤ 9223372036854775000 ∧ n ≤ 4096 ∧ k ≤ 4096) {K : AV → Store → Prop} {d : Dm K} : SpD E 19 [x0, x1, x2] S K d = K (.tup [enc (readS b n k).1, enc (readS b n k).2.1, .int .i64 (readS b n k).2.2]) (killL (topIdsL [x0, x1, x2]) S) :=
  callG h i_readSR (a := (b, n, k)) (by simp only [e_readSR, rdSL, h0, h1, h2, Option.bind_some, Option.map_some]) hk
def e_ints : (List Int) × (List Int) → List AV := fun | (a, b) => [enc a, enc b]
def k_ints : (List Int) × (List Int) → Prop := fun | (a, b) => a.length ≤ 9223372036854775000
def r_ints : (List Int) × (List Int) → AV := fun | (a, b) => .bool (decide (a = b))
noncomputable def p_ints : List AV → Store → Option (AV × Store) := primS e_ints (gd k_ints r_ints)
theorem i_ints : Inj e_ints := by
  rintro ⟨a1, b1⟩ ⟨a2, b2⟩ h
  simpa only [e_ints, enc_inj, rec_inj, AV.str.injEq, AV.int.injEq, AV.bool.injEq, AV.agg.injEq, AV.ptr.injEq, AV.fn.injEq, List.cons.injEq, and_true, true_and, Prod.mk.injEq] using h
theorem c_ints {E : Env} (h : E.prim 17 = some fun _ => p_ints) (a : List Int) (b : List Int) (hk : a.length ≤ 9223372036854775000) {S : Store} {K : AV → Store → Prop} {d : Dm K} : SpD E 17 [enc a, enc b] S K d = K (.bool (decide (a = b))) S :=
  callS h i_ints (a := (a, b)) (by simp only [e_ints, rdSL_cons, rdSL_nil, rdS_int, rdS_bool, rdS_str, enc_rdS, rdS_fn0, rdS_csl0, rdS_rec, rdSL_rec, rdS_agg, rdS_tup, Option.bind_some, Option.map_some]) hk
theorem c_ints' {E : Env} (h : E.prim 17 = some fun _ => p_ints) {S : Store} {x0 x1 : AV} {a : List Int} {b : List Int} (h0 : rdS S x0 = some (enc a)) (h1 : rdS S x1 = some (enc b)) (hk : a.length ≤ 9223372036854775000) {K : AV → Store → Prop} {d : Dm K} : SpD E 17 [x0, x1] S K d = K (.bool (decide (a = b))) S :=
  callS h i_ints (a := (a, b)) (by simp only [e_ints, rdSL, h0, h1, Option.bind_some, Option.map_some]) hk
def e_same35 : (List Bz) × (List Bz) → List AV := fun | (a, b) => [enc a, enc b]
def k_same35 : (List Bz) × (List Bz) → Prop := fun | (a, b) => a.length ≤ 9223372036854775000 ∧ ∀ z, z ∈ a → z.b.length ≤ 9223372036854775000
def r_same35 : (List Bz) × (List Bz) → AV := fun | (a, b) => .bool (decide (a.map (·.b) = b.map (·.b)))
noncomputable def p_same35 : List AV → Store → Option (AV × Store) := primS e_same35 (gd k_same35 r_same35)
theorem i_same35 : Inj e_same35 := by
  rintro ⟨a1, b1⟩ ⟨a2, b2⟩ h
  simpa only [e_same35, enc_inj, rec_inj, AV.str.injEq, AV.int.injEq, AV.bool.injEq, AV.agg.injEq, AV.ptr.injEq, AV.fn.injEq, List.cons.injEq, and_true, true_and, Prod.mk.injEq] using h
theorem c_same35 {E : Env} (h : E.prim 18 = some fun _ => p_same35) (a : List Bz) (b : List Bz) (hk : a.length ≤ 9223372036854775000 ∧ ∀ z, z ∈ a → z.b.length ≤ 9223372036854775000) {S : Store} {K : AV → Store → Prop} {d : Dm K} : SpD E 18 [enc a, enc b] S K d = K (.bool (decide (a.map (·.b) = b.map (·.b)))) S :=
  callS h i_same35 (a := (a, b)) (by simp only [e_same35, rdSL_cons, rdSL_nil, rdS_int, rdS_bool, rdS_str, enc_rdS, rdS_fn0, rdS_csl0, rdS_rec, rdSL_rec, rdS_agg, rdS_tup, Option.bind_some, Option.map_some]) hk
theorem c_same35' {E : Env} (h : E.prim 18 = some fun _ => p_same35) {S : Store} {x0 x1 : AV} {a : List Bz} {b : List Bz} (h0 : rdS S x0 = some (enc a)) (h1 : rdS S x1 = some (enc b)) (hk : a.length ≤ 9223372036854775000 ∧ ∀ z, z ∈ a → z.b.length ≤ 9223372036854775000) {K : AV → Store → Prop} {d : Dm K} : SpD E 18 [x0, x1] S K d = K (.bool (decide (a.map (·.b) = b.map (·.b)))) S :=
  callS h i_same35 (a := (a, b)) (by simp only [e_same35, rdSL, h0, h1, Option.bind_some, Option.map_some]) hk
def e_recordSmall : (List Int) × (List Bz) × (List UInt8) → List AV := fun | (l, m, b) => [enc l, enc m, enc b]
def k_recordSmall : (List Int) × (List Bz) × (List UInt8) → Prop := fun | (l, m, b) => l.length ≤ 9223372036854775807 ∧ m.length ≤ 9223372036854775807 ∧ b.length ≤ 9223372036854775807
def r_recordSmall : (List Int) × (List Bz) × (List UInt8) → AV := fun | (l, m, b) => .bool true
noncomputable def p_recordSmall : List AV → Store → Option (AV × Store) := primS e_recordSmall (gd k_recordSmall r_recordSmall)
theorem i_recordSmall : Inj e_recordSmall := by
  rintro ⟨l1, m1, b1⟩ ⟨l2, m2, b2⟩ h
  simpa only [e_recordSmall, enc_inj, rec_inj, AV.str.injEq, AV.int.injEq, AV.bool.injEq, AV.agg.injEq, AV.ptr.injEq, AV.fn.injEq, List.cons.injEq, and_true, true_and, Prod.mk.injEq] using h
theorem c_recordSmall {E : Env} (h : E.prim 4 = some fun _ => p_recordSmall) (l : List Int) (m : List Bz) (b : List UInt8) (hk : l.length ≤ 9223372036854775807 ∧ m.length ≤ 9223372036854775807 ∧ b.length ≤ 9223372036854775807) {S : Store} {K : AV → Store → Prop} {d : Dm K} : SpD E 4 [enc l, enc m, enc b] S K d = K (.bool true) S :=
  callS h i_recordSmall (a := (l, m, b)) (by simp only [e_recordSmall, rdSL_cons, rdSL_nil, rdS_int, rdS_bool, rdS_str, enc_rdS, rdS_fn0, rdS_csl0, rdS_rec, rdSL_rec, rdS_agg, rdS_tup, Option.bind_some, Option.map_some]) hk
theorem c_recordSmall' {E : Env} (h : E.prim 4 = some fun _ => p_recordSmall) {S : Store} {x0 x1 x2 : AV} {l : List Int} {m : List Bz} {b : List UInt8} (h0 : rdS S x0 = some (enc l)) (h1 : rdS S x1 = some (enc m)) (h2 : rdS S x2 = some (enc b)) (hk : l.length ≤ 9223372036854775807 ∧ m.length ≤ 9223372036854775807 ∧ b.length ≤ 9223372036854775807) {K : AV → Store → Prop} {d : Dm K} : SpD E 4 [x0, x1, x2] S K d = K (.bool true) S :=
  callS h i_recordSmall (a := (l, m, b)) (by simp only [e_recordSmall, rdSL, h0, h1, h2, Option.bind_some, Option.map_some]) hk

theorem enc_n1 (n : Int) : AV.csl [.int .i64 1, .int .i64 n, enc ([] : List UInt8), enc ([] : List Val)] 1 = enc [numV n] := csl_v1 (numV n)
theorem enc_r1 (b : List UInt8) : AV.csl [.int .i64 2, .int .i64 0, enc b, enc ([] : List Val)] 1 = enc [rawV b] := csl_v1 (rawV b)
theorem encodeP_len (v : Val) : (encodeP v).1.length ≤ 1048576 := by
  unfold encodeP
  split
  · rename_i h; exact ((size_iff v).1 h).2.2
  · simp
theorem ok_small {E : Env} (hp : E.prim 13 = none) (hf : E.F 13 = some F13) (h2 : E.prim 40 = some fun _ => p_of02) (h4 : E.prim 41 = some fun _ => p_num02) (h5 : E.prim 42 = some fun _ => p_raw02)
    (h7 : E.prim 43 = some fun _ => p_encode) (h8 : E.prim 8 = some fun _ => p_pad) : OkG E 13 e_small (gd k_small r_small) := by
  refine OkG.code hp hf (fun _ => rfl) fun ⟨l, m⟩ S hk => ?_
  have hk : l.length ≤ 100000 ∧ m.length ≤ 100000 := hk
  have co := fun (T : Store) (K : AV → Store → Prop) (q : Dm K) => c_of02 h2 .nilS rfl (S := T) (K := K) (d := q)
  simp -dsimp only [go_sem, F13, e_small, r_small, co]
  refine Ex.range (n := l.length) (fun i g T => g 1 = enc m ∧ g 6 = .ptr S.length 0 ∧ g 14 = enc l ∧ ∃ (y : AV) (R : Store), T = S ++ (.cells [.int .i64 3, .int .i64 0, enc ([] : List UInt8), y] :: R) ∧
    OwnR (S.length + 1) R y ((l.take i).map numV)) (by decide) (by omega) rfl rfl ⟨rfl, rfl, rfl, .nilS, [], rfl, .inl ⟨rfl, rfl⟩⟩ ?_ ?_
  · rintro i g T hi gi gn ⟨g1, g6, g14, y, R, rfl, hR⟩
    simp -dsimp only [go_sem, gi, gn, g1, g6, g14, ia_enc .i64 hi]
    refine ExF.intro ?_
    simp -dsimp only [go_sem, gi, gn, g1, g6, g14, c_num02 h4, valL, enc_n1]
    have hO : OwnL (S ++ [.cells [.int .i64 3, .int .i64 0, enc ([] : List UInt8), y]]) _ y _ := OwnR.own (R := R) (by simpa using hR)
    simp only [List.append_assoc, List.cons_append, List.nil_append] at hO
    refine OwnL.app hO rfl (el_enc _ rfl) ?_ fun y' T' hO' hK hi' => ?_
    · simp only [List.length_singleton, List.length_map, List.length_take]; omega
    obtain ⟨R', rfl⟩ := hO'.1
    have hR' := hO'.ownR
    have yc := hO'.cells1
    simp only [List.append_assoc, List.cons_append, List.nil_append]
    simp -dsimp only [go_sem, gi, gn, g1, g6, g14, yc]
    refine ⟨⟨y', R', rfl, ?_⟩, ?_⟩
    · rw [List.take_succ_eq_append_getElem hi, List.map_append]; simpa using hR'
    · (repeat' (first | exact fl_ld rfl rfl rfl rfl (flLd_n _ _ _ _ _ _ (by simp -dsimp only [go_sem, g1, g6, g14])) | exact fl_b2s rfl rfl rfl rfl (by simp -dsimp only [go_sem, g1, g6, g14]) | apply And.intro))
  · rintro g T gi ⟨g1, g6, g14, y, R, rfl, hR⟩
    rw [List.take_length] at hR
    simp -dsimp only [go_sem, gi, g1, g6, g14]
    refine Ex.range (n := m.length) (fun i g T => g 6 = .ptr S.length 0 ∧ g 28 = enc m ∧ ∃ (y : AV) (R : Store), T = S ++ (.cells [.int .i64 3, .int .i64 0, enc ([] : List UInt8), y] :: R) ∧
      OwnR (S.length + 1) R y (l.map numV ++ (m.take i).map fun z => rawV z.b)) (by decide) (by omega) rfl rfl ⟨by simp -dsimp only [go_sem, g6], rfl, y, R, rfl, by simpa using hR⟩ ?_ ?_
    · rintro i g T hi gi gn ⟨g6, g28, y, R, rfl, hR⟩
      simp -dsimp only [go_sem, gi, gn, g6, g28, ia_enc .i64 hi]
      refine ExF.intro ?_
      simp -dsimp only [go_sem, gi, gn, g6, g28, c_raw02 h5, valL, enc_r1]
      have hO : OwnL (S ++ [.cells [.int .i64 3, .int .i64 0, enc ([] : List UInt8), y]]) _ y _ := OwnR.own (R := R) (by simpa using hR)
      simp only [List.append_assoc, List.cons_append, List.nil_append] at hO
      refine OwnL.app hO rfl (el_enc _ rfl) ?_ fun y' T' hO' hK hi' => ?_
      · simp only [List.length_singleton, List.length_append, List.length_map, List.length_take]; omega
      obtain ⟨R', rfl⟩ := hO'.1
      have hR' := hO'.ownR
      have yc := hO'.cells1
      simp only [List.append_assoc, List.cons_append, List.nil_append]
      simp -dsimp only [go_sem, gi, gn, g6, g28, yc]
      refine ⟨⟨y', R', rfl, ?_⟩, ?_⟩
      · rw [List.take_succ_eq_append_getElem hi, List.map_append]; simpa using hR'
      · (repeat' (first | exact fl_ld rfl rfl rfl rfl (flLd_n _ _ _ _ _ _ (by simp -dsimp only [go_sem, g6, g28])) | exact fl_b2s rfl rfl rfl rfl (by simp -dsimp only [go_sem, g6, g28]) | apply And.intro))
    · rintro g T gi ⟨g6, g28, y, R, rfl, hR⟩
      rw [List.take_length] at hR
      have hO : OwnL (S ++ [.cells [.int .i64 3, .int .i64 0, enc ([] : List UInt8), y]]) _ y _ := OwnR.own (R := R) (by simpa using hR)
      simp only [List.append_assoc, List.cons_append, List.nil_append] at hO
      have hrd := hO.rd
      have hval : rdS (S ++ AObj.cells [AV.int IntKind.i64 3, AV.int IntKind.i64 0, enc ([] : List UInt8), y] :: R) (.agg [.int .i64 3, .int .i64 0, enc ([] : List UInt8), y]) = some (.agg (valL (recV l m))) := by
        simp only [rdS, rdSL, rd0, enc_rdS, hrd, Option.bind_some, Option.map_some]; rfl
      have ce := fun (K : AV → Store → Prop) (q : Dm K) => c_encode' h7 hval (K := K) (d := q)
      have hpk : S <+: killL (topIdsL [AV.agg [AV.int IntKind.i64 3, AV.int IntKind.i64 0, enc ([] : List UInt8), y]]) (S ++ AObj.cells [AV.int IntKind.i64 3, AV.int IntKind.i64 0, enc ([] : List UInt8), y] :: R) := prefix_kill (List.prefix_append _ _) _ fun i hi => by
        simp only [topIdsL, topIds, enc_top, List.nil_append, List.append_nil] at hi
        have := hO.ids i hi
        simp at this; omega
      have hel := encodeP_len (recV l m)
      cases y2 : decide ((encodeP (recV l m)).2 = 0)
      · have e : smallP l m = ([], (encodeP (recV l m)).2) := if_neg (of_decide_eq_false y2)
        simp -dsimp only [go_sem, gi, g6, g28, ce, y2, F13, r_small, e]
        exact conv_pair hpk (fun i h => by simp [topIds] at h) rfl
      · have e : smallP l m = padP (encodeP (recV l m)).1 120 := if_pos (of_decide_eq_true y2)
        simp -dsimp only [go_sem, gi, g6, g28, ce, y2, c_pad h8 (encodeP (recV l m)).1 120 (by omega), F13, r_small, e]
        exact conv_pair hpk (fun i h => by simp [enc_top] at h) (enc_rdS _ _)
end Go.Proofs.YtaajlbbooneiiaaDoor.Avm
set_option linter.unusedVariables false
set_option linter.unusedSimpArgs false
set_option maxRecDepth 10000
namespace Go.Proofs.YtaajlbbooneiiaaDoor.Avm

theorem numsOk_all : ∀ l : List Int, numsOk l = true ↔ ∀ n, n ∈ l → 0 ≤ n ∧ n ≤ 4611686018427387904
  | [] => by simp [numsOk]
  | n :: l => by simp [numsOk, numsOk_all l]
theorem ok_numbersR {E : Env} (hp : E.prim 14 = none) (hf : E.F 14 = some F14) : OkS E 14 e_numbersR (gd k_numbersR r_numbersR) := by
  refine OkS.code hp hf (fun _ => rfl) fun l hk => ?_
  have hk : l.length ≤ 9223372036854775000 := hk
  simp -dsimp only [go_sem, F14, e_numbersR]
  refine Ex.count (n := l.length) (i0 := 0) (fun i g T => g 0 = enc l ∧ ∀ n, n ∈ l.take i → 0 ≤ n ∧ n ≤ 4611686018427387904) (by decide) (by omega) rfl (by omega) ⟨rfl, by simp⟩ ?_ ?_ ?_
  · rintro i g T hi gi ⟨g0, hI⟩
    simp -dsimp only [go_sem, gi, g0]
  · rintro i g T hi gi ⟨g0, hI⟩
    have bad : ¬ (0 ≤ l[i] ∧ l[i] ≤ 4611686018427387904) → numsOk l = false := fun h => by
      rw [Bool.eq_false_iff]; intro q; exact h ((numsOk_all l).1 q _ (List.getElem_mem hi))
    cases y1 : decide (l[i] < 0)
    · cases y2 : decide ((4611686018427387904 : Int) < l[i])
      · simp -dsimp only [go_sem, gi, g0, ia_enc .i64 hi, y1, y2]
        intro n hn
        rw [List.take_succ_eq_append_getElem hi, List.mem_append, List.mem_singleton] at hn
        rcases hn with hn | rfl
        · exact hI n hn
        · have := of_decide_eq_false y1; have := of_decide_eq_false y2; omega
      · have e := bad (by have := of_decide_eq_true y2; omega)
        simp -dsimp only [go_sem, gi, g0, ia_enc .i64 hi, y1, y2, F14, r_numbersR, e]
    · have e := bad (by have := of_decide_eq_true y1; omega)
      simp -dsimp only [go_sem, gi, g0, ia_enc .i64 hi, y1, F14, r_numbersR, e]
  · rintro g T gi ⟨g0, hI⟩
    rw [List.take_length] at hI
    have e := (numsOk_all l).2 hI
    simp -dsimp only [go_sem, gi, g0, F14, r_numbersR, e]
theorem ok_recordR {E : Env} (hp : E.prim 15 = none) (hf : E.F 15 = some F15) (h2 : E.prim 47 = some fun _ => p_ofR28) (h4 : E.prim 44 = some fun _ => p_numR28) (h5 : E.prim 45 = some fun _ => p_rawR28)
    (h7 : E.prim 46 = some fun _ => p_bytesR 17) : OkG E 15 e_recordR (gd k_recordR r_recordR) := by
  refine OkG.code hp hf (fun _ => rfl) fun ⟨l, m⟩ S hk => ?_
  have hk : rightV (recV l m) := hk
  have hlen := (pure_llen hk.1).1
  rw [show (recV l m).list = l.map numV ++ m.map (fun z => rawV z.b) from rfl, List.length_append, List.length_map, List.length_map] at hlen
  simp -dsimp only [go_sem, F15, e_recordR]
  refine Ex.count (n := l.length) (i0 := 0) (fun i g T => g 0 = enc l ∧ g 1 = enc m ∧ OwnL S T (g 5) ((l.take i).map numV)) (by decide) (by omega) rfl (by omega) ⟨rfl, rfl, OwnL.nil List.prefix_rfl⟩ ?_ ?_ ?_
  · rintro i g T hi gi ⟨g0, g1, hO⟩
    simp -dsimp only [go_sem, gi, g0]
  · rintro i g T hi gi ⟨g0, g1, hO⟩
    simp -dsimp only [go_sem, gi, g0, g1, ia_enc .i64 hi, c_numR28 h4, valL, enc_n1]
    refine OwnL.app hO rfl (el_enc _ rfl) ?_ fun y' T' hO' hK hi' => ?_
    · simp only [List.length_singleton, List.length_map, List.length_take]; omega
    simp -dsimp only [go_sem, gi, g0, g1]
    rw [List.take_succ_eq_append_getElem hi, List.map_append]; exact hO'
  · rintro g T gi ⟨g0, g1, hO⟩
    rw [List.take_length] at hO
    simp -dsimp only [go_sem, gi, g0, g1]
    refine Ex.count (n := m.length) (i0 := 0) (fun i g T => g 1 = enc m ∧ OwnL S T (g 5) (l.map numV ++ (m.take i).map fun z => rawV z.b)) (by decide) (by omega) rfl (by omega) ⟨by simp -dsimp only [go_sem, g1], by simp -dsimp only [go_sem]; simpa using hO⟩ ?_ ?_ ?_
    · rintro i g T hi gi ⟨g1, hO⟩
      simp -dsimp only [go_sem, gi, g1]
    · rintro i g T hi gi ⟨g1, hO⟩
      simp -dsimp only [go_sem, gi, g1, ia_enc .i64 hi, c_rawR28 h5, valL, enc_r1]
      refine OwnL.app hO rfl (el_enc _ rfl) ?_ fun y' T' hO' hK hi' => ?_
      · simp only [List.length_singleton, List.length_append, List.length_map, List.length_take]; omega
      simp -dsimp only [go_sem, gi, g1]
      rw [List.take_succ_eq_append_getElem hi, List.map_append, ← List.append_assoc]; exact hO'
    · rintro g T gi ⟨g1, hO⟩
      rw [List.take_length] at hO
      obtain ⟨y, hy⟩ : ∃ y, g 5 = y := ⟨_, rfl⟩
      rw [hy] at hO
      have co3 := fun (K : AV → Store → Prop) (q : Dm K) => c_ofR28' h2 hO.rd (K := K) (d := q)
      have cb : ∀ (T : Store) (K : AV → Store → Prop) (q : Dm K), SpD E 46 [.agg [.int .i64 3, .int .i64 0, enc ([] : List UInt8), enc (l.map numV ++ m.map fun z => rawV z.b)]] T K q = K (enc (bytesA (recV l m))) T := fun T K q => c_bytesR h7 (recV l m) ⟨hk.1, by have := hk.2.1; omega, by have := hk.2.2; omega⟩
      simp -dsimp only [go_sem, gi, g1, hy, co3, valL, cb, F15, r_recordR]
      exact Conv.good (prefix_kill hO.1 _ fun i h => by
        simp only [topIdsL, List.append_nil] at h; exact hO.ids _ h) (fun i h => by simp [enc_top] at h) (enc_rdS _ _)
theorem ok_ints {E : Env} (hp : E.prim 17 = none) (hf : E.F 17 = some F17) : OkS E 17 e_ints (gd k_ints r_ints) := by
  refine OkS.code hp hf (fun _ => rfl) fun ⟨a, b⟩ hk => ?_
  have hk : a.length ≤ 9223372036854775000 := hk
  cases y1 : decide ((a.length : Int) = (b.length : Int))
  · have e : decide (a = b) = false := decide_eq_false fun h => of_decide_eq_false y1 (by rw [h])
    simp -dsimp only [go_sem, F17, e_ints, r_ints, y1, e]
  have hl : a.length = b.length := by have := of_decide_eq_true y1; omega
  simp -dsimp only [go_sem, F17, e_ints, y1]
  refine Ex.count (n := a.length) (i0 := 0) (fun i g T => g 0 = enc a ∧ g 1 = enc b ∧ a.take i = b.take i) (by decide) (by omega) rfl (by omega) ⟨rfl, rfl, rfl⟩ ?_ ?_ ?_
  · rintro i g T hi gi ⟨g0, g1, hI⟩
    simp -dsimp only [go_sem, gi, g0]
  · rintro i g T hi gi ⟨g0, g1, hI⟩
    have hib : i < b.length := by omega
    cases y2 : decide (a[i] = b[i])
    · have e : decide (a = b) = false := decide_eq_false fun h => of_decide_eq_false y2 (by subst h; rfl)
      simp -dsimp only [go_sem, gi, g0, g1, ia_enc .i64 hi, ia_enc .i64 hib, y2, F17, r_ints, e]
    · have hn : a.take (i + 1) = b.take (i + 1) := by rw [List.take_succ_eq_append_getElem hi, List.take_succ_eq_append_getElem hib, hI, of_decide_eq_true y2]
      simp -dsimp only [go_sem, gi, g0, g1, ia_enc .i64 hi, ia_enc .i64 hib, y2, hn]
  · rintro g T gi ⟨g0, g1, hI⟩
    rw [List.take_length, hl, List.take_length] at hI
    have e : decide (a = b) = true := decide_eq_true hI
    simp -dsimp only [go_sem, gi, g0, g1, F17, r_ints, e]
theorem ok_same35 {E : Env} (hp : E.prim 18 = none) (hf : E.F 18 = some F18) (h1 : E.prim 10 = some fun _ => p_bsame) : OkS E 18 e_same35 (gd k_same35 r_same35) := by
  refine OkS.code hp hf (fun _ => rfl) fun ⟨a, b⟩ hk => ?_
  have hk : a.length ≤ 9223372036854775000 ∧ ∀ z, z ∈ a → z.b.length ≤ 9223372036854775000 := hk
  cases y1 : decide ((a.length : Int) = (b.length : Int))
  · have e : decide (a.map (·.b) = b.map (·.b)) = false := decide_eq_false fun h => of_decide_eq_false y1 (by have := congrArg List.length h; simp at this; rw [this])
    simp -dsimp only [go_sem, F18, e_same35, r_same35, y1, e]
  have hl : a.length = b.length := by have := of_decide_eq_true y1; omega
  simp -dsimp only [go_sem, F18, e_same35, y1]
  refine Ex.range (n := a.length) (fun i g T => g 0 = enc a ∧ g 1 = enc b ∧ (a.take i).map (·.b) = (b.take i).map (·.b)) (by decide) (by omega) rfl rfl ⟨rfl, rfl, rfl⟩ ?_ ?_
  · rintro i g T hi gi gn ⟨g0, g1, hI⟩
    have hib : i < b.length := by omega
    have cs := fun (T : Store) (K : AV → Store → Prop) (q : Dm K) => c_bsame h1 a[i].b b[i].b (by have := hk.2 _ (List.getElem_mem hi); omega) (S := T) (K := K) (d := q)
    cases y2 : decide (a[i].b = b[i].b)
    · have e : decide (a.map (·.b) = b.map (·.b)) = false := decide_eq_false fun h => of_decide_eq_false y2 (by
        have := congrArg (fun l : List (List UInt8) => l[i]?) h
        simpa only [List.getElem?_map, List.getElem?_eq_getElem hi, List.getElem?_eq_getElem hib, Option.map_some, Option.some.injEq] using this)
      simp -dsimp only [go_sem, gi, gn, g0, g1, ia_enc .i64 hi, ia_enc .i64 hib, cs, y2, F18, r_same35, e]
    · have hn : (a.take (i + 1)).map (·.b) = (b.take (i + 1)).map (·.b) := by rw [List.take_succ_eq_append_getElem hi, List.take_succ_eq_append_getElem hib, List.map_append, List.map_append, hI, List.map_singleton, List.map_singleton, of_decide_eq_true y2]
      simp -dsimp only [go_sem, gi, gn, g0, g1, ia_enc .i64 hi, ia_enc .i64 hib, cs, y2]
      exact hn
  · rintro g T gi ⟨g0, g1, hI⟩
    rw [List.take_length, hl, List.take_length] at hI
    have e : decide (a.map (·.b) = b.map (·.b)) = true := decide_eq_true hI
    simp -dsimp only [go_sem, gi, g0, g1, F18, r_same35, e]
end Go.Proofs.YtaajlbbooneiiaaDoor.Avm
set_option linter.unusedVariables false
set_option linter.unusedSimpArgs false
set_option maxRecDepth 10000
namespace Go.Proofs.YtaajlbbooneiiaaDoor.Avm

theorem okS_snoc (n : Nat) (a : List Val) (x : Val) : okS n (a ++ [x]) = (okS n a && if a.length < n then decide (x.kind = 1) else decide (x.kind = 2)) := by
  unfold okS
  rw [List.take_append, List.drop_append]
  by_cases h : a.length < n
  · rw [if_pos h, List.take_of_length_le (l := [x]) (by simp; omega), List.drop_of_length_le (l := [x]) (by simp; omega), List.all_append, List.append_nil]
    simp only [List.all_cons, List.all_nil, Bool.and_true]
    rw [Bool.and_assoc, Bool.and_assoc, Bool.and_comm (decide (x.kind = 1))]
  · rw [if_neg h, show n - a.length = 0 by omega, List.take_zero, List.drop_zero, List.append_nil, List.all_append]
    simp only [List.all_cons, List.all_nil, Bool.and_true, Bool.and_assoc]
theorem okS_pre (n : Nat) (a b : List Val) (h : okS n a = false) : okS n (a ++ b) = false := by
  rw [Bool.eq_false_iff] at h ⊢
  intro q; apply h
  unfold okS at q ⊢
  rw [List.take_append, List.drop_append, List.all_append, List.all_append] at q
  simp only [Bool.and_eq_true] at q ⊢
  exact ⟨q.1.1, q.2.1⟩
theorem numsS_snoc (n : Nat) (a : List Val) (x : Val) : numsS n (a ++ [x]) = numsS n a ++ if a.length < n then [x.num] else [] := by
  unfold numsS
  rw [List.take_append, List.map_append]
  by_cases h : a.length < n
  · rw [if_pos h, List.take_of_length_le (l := [x]) (by simp; omega)]; rfl
  · rw [if_neg h, show n - a.length = 0 by omega, List.take_zero]; rfl
theorem bytsS_snoc (n : Nat) (a : List Val) (x : Val) : bytsS n (a ++ [x]) = bytsS n a ++ if a.length < n then [] else [⟨x.bytes⟩] := by
  unfold bytsS
  rw [List.drop_append, List.map_append]
  by_cases h : a.length < n
  · rw [if_pos h, List.drop_of_length_le (l := [x]) (by simp; omega)]; rfl
  · rw [if_neg h, show n - a.length = 0 by omega, List.drop_zero]; rfl
theorem okS_at {n i : Nat} {l : List Val} (hi : i < l.length) (h : okS n (l.take i) = true) (hx : (if i < n then decide (l[i].kind = 1) else decide (l[i].kind = 2)) = true) : okS n (l.take (i + 1)) = true := by
  rw [List.take_succ_eq_append_getElem hi, okS_snoc, h, List.length_take, Nat.min_eq_left (by omega), hx]; rfl
theorem okS_bad {n i : Nat} {l : List Val} (hi : i < l.length) (hx : (if i < n then decide (l[i].kind = 1) else decide (l[i].kind = 2)) = false) : okS n l = false := by
  have e : l = l.take (i + 1) ++ l.drop (i + 1) := (List.take_append_drop _ _).symm
  rw [e]
  apply okS_pre
  rw [List.take_succ_eq_append_getElem hi, okS_snoc, List.length_take, Nat.min_eq_left (by omega), hx, Bool.and_false]
theorem conv3 {α β : Type} [Rec α] [Rec β] {S T : Store} {x y : AV} {a : List α} {b : List β} {c : Int} (hp : S <+: T) (hx : ∀ i, i ∈ topIds x → S.length ≤ i) (hy : ∀ i, i ∈ topIds y → S.length ≤ i) (h1 : rdS T x = some (enc a)) (h2 : rdS T y = some (enc b)) :
    Conv S T (.tup [x, y, .int .i64 c]) S (.tup [enc a, enc b, .int .i64 c]) :=
  Conv.good hp (fun i h => by
    simp only [topIds, topIdsL, List.append_nil, List.mem_append] at h
    exact h.elim (hx i) (hy i)) (by simp only [rdS, rdSL, rd0, h1, h2, Option.bind_some, Option.map_some])
theorem enc_b1 (b : List UInt8) : AV.csl [enc b] 1 = enc [Bz.mk b] := rfl
theorem enc_i1 (n : Int) : AV.csl [.int .i64 n] 1 = enc [n] := rfl

/-- the two rows so far -/
def Rows2 (S T : Store) (x y : AV) (n : Nat) (l : List Val) : Prop := OwnL S T x (numsS n l) ∧ OwnL S T y (bytsS n l) ∧ (∀ i, i ∈ topIds x → i ∉ topIds y) ∧ okS n l = true
theorem Rows2.start {S T : Store} (h : S <+: T) (n : Nat) (l : List Val) : Rows2 S T .nilS .nilS n (l.take 0) := by
  have e1 : numsS n (l.take 0) = [] := by simp [numsS]
  have e2 : bytsS n (l.take 0) = [] := by simp [bytsS]
  exact ⟨by rw [e1]; exact OwnL.nil h, by rw [e2]; exact OwnL.nil h, fun i h => by simp [topIds] at h, by simp [okS]⟩
theorem Rows2.more {S T : Store} {x y : AV} {n : Nat} {l : List Val} (h : Rows2 S T x y n l) (L : List AObj) : Rows2 S (T ++ L) x y n l := ⟨h.1.more L, h.2.1.more L, h.2.2⟩
theorem Rows2.num {S T : Store} {x y : AV} {n i : Nat} {l : List Val} (h : Rows2 S T x y n (l.take i)) (hi : i < l.length) (hl : l.length ≤ 100000) (hn : i < n) (hx : decide (l[i].kind = 1) = true)
    {K : AV → Store → Prop} {d : Dm K} (k : ∀ x' T', Rows2 S T' x' y n (l.take (i + 1)) → K x' T') : thn (appA T 1 8 x (enc [l[i].num])) K d := by
  obtain ⟨hO1, hO2, hd, hk⟩ := h
  refine OwnL.app hO1 rfl (el_enc _ rfl) ?_ fun x' T' hO hK hid => k _ _ ⟨?_, ?_, ?_, okS_at hi hk (by rw [if_pos hn]; exact hx)⟩
  · simp only [numsS, List.length_map, List.length_take, List.length_singleton]; omega
  · rw [List.take_succ_eq_append_getElem hi, numsS_snoc, List.length_take, Nat.min_eq_left (by omega), if_pos hn]; exact hO
  · have := hO2.keep hO.1 hK (fun i hi hj => hd i hj hi)
    rw [List.take_succ_eq_append_getElem hi, bytsS_snoc, List.length_take, Nat.min_eq_left (by omega), if_pos hn, List.append_nil]; exact this
  · intro i hi hj
    rcases hid i hi with h | h
    · exact hd i h hj
    · have := hO2.lt i hj; omega
theorem Rows2.byt {S T : Store} {x y : AV} {n i : Nat} {l : List Val} (h : Rows2 S T x y n (l.take i)) (hi : i < l.length) (hl : l.length ≤ 100000) (hn : ¬ i < n) (hx : decide (l[i].kind = 2) = true)
    {K : AV → Store → Prop} {d : Dm K} (k : ∀ y' T', Rows2 S T' x y' n (l.take (i + 1)) → K y' T') : thn (appA T 1 24 y (enc [Bz.mk l[i].bytes])) K d := by
  obtain ⟨hO1, hO2, hd, hk⟩ := h
  refine OwnL.app hO2 rfl (el_enc _ rfl) ?_ fun y' T' hO hK hid => k _ _ ⟨?_, ?_, ?_, okS_at hi hk (by rw [if_neg hn]; exact hx)⟩
  · simp only [bytsS, List.length_map, List.length_take, List.length_drop, List.length_singleton]; omega
  · have := hO1.keep hO.1 hK hd
    rw [List.take_succ_eq_append_getElem hi, numsS_snoc, List.length_take, Nat.min_eq_left (by omega), if_neg hn, List.append_nil]; exact this
  · rw [List.take_succ_eq_append_getElem hi, bytsS_snoc, List.length_take, Nat.min_eq_left (by omega), if_neg hn]; exact hO
  · intro i hi hj
    rcases hid i hj with h | h
    · exact hd i hi h
    · have := hO1.lt i hi; omega
theorem ok_readS {E : Env} (hp : E.prim 16 = none) (hf : E.F 16 = some F16) (h1 : E.prim 11 = some fun _ => p_unpad) (h2 : E.prim 48 = some fun _ => p_decode) : OkG E 16 e_readS (gd k_readS r_readS) := by
  refine OkG.code hp hf (fun _ => rfl) fun ⟨b, n, k⟩ S hk => ?_
  have hk : b.length ≤ 9223372036854775000 ∧ n ≤ 4096 ∧ k ≤ 4096 := hk
  have pr : ∀ L : List AObj, S <+: S ++ L := fun L => List.prefix_append _ _
  have fe : ∀ T : Store, S <+: T → Conv S T (.tup [.nilS, .nilS, .int .i64 11]) S (.tup [enc ([] : List Int), enc ([] : List Bz), .int .i64 11]) := fun T hp =>
    conv3 hp (fun i h => by simp [topIds] at h) (fun i h => by simp [topIds] at h) rfl rfl
  have hcu : ∀ (T : Store) (K : AV → Store → Prop) (q : Dm K), SpD E 11 [enc b] T K q = K (.tup [enc (unpadP b).1, .int .i64 (unpadP b).2]) T := fun T K q => c_unpad h1 b hk.1
  cases y1 : decide ((unpadP b).2 = 0)
  · have e : readS b n k = ([], [], 11) := if_neg fun h => of_decide_eq_false y1 h.1
    simp -dsimp only [go_sem, F16, e_readS, r_readS, hcu, y1, e]
    exact fe _ List.prefix_rfl
  cases y2 : decide ((b.length : Int) = 120)
  · have e : readS b n k = ([], [], 11) := if_neg fun h => of_decide_eq_false y2 (by omega)
    simp -dsimp only [go_sem, F16, e_readS, r_readS, hcu, y1, y2, e]
    exact fe _ List.prefix_rfl
  obtain ⟨d, hd⟩ : ∃ d, decodeP (unpadP b).1 = d := ⟨_, rfl⟩
  have hr : readS b n k = readSD n k d := by rw [readS, if_pos ⟨of_decide_eq_true y1, by have := of_decide_eq_true y2; omega⟩, hd]
  have bad : ¬ (d.2 = 0 ∧ d.1.kind = 3 ∧ d.1.list.length = n + k ∧ okS n d.1.list = true) → readS b n k = ([], [], 11) := fun h => by rw [hr, readSD, if_neg h]
  cases y3 : decide (d.2 = 0)
  · have e := bad fun h => of_decide_eq_false y3 h.1
    simp -dsimp only [go_sem, F16, e_readS, r_readS, hcu, y1, y2, c_decode h2, hd, y3, e]
    exact fe _ (pr _)
  obtain ⟨v, e0⟩ := d
  have y3' : e0 = 0 := of_decide_eq_true y3
  subst y3'
  obtain ⟨⟨hpu, hde, hby⟩, hbv⟩ := decode_inv hd
  have hvl := (pure_llen hpu).1
  cases y4 : decide (v.kind = 3)
  · have e := bad fun h => of_decide_eq_false y4 h.2.1
    simp -dsimp only [go_sem, F16, e_readS, r_readS, hcu, y1, y2, c_decode h2, hd, y3, y4, e]
    exact fe _ (pr _)
  have yn : decide ((n : Int) < 0) = false := decide_eq_false (by omega)
  cases y5 : decide ((v.list.length : Int) < (n : Int))
  rotate_left
  · have e := bad fun h => by have := of_decide_eq_true y5; have := h.2.2.1; simp only at this; omega
    simp -dsimp only [go_sem, F16, e_readS, r_readS, hcu, y1, y2, c_decode h2, hd, y3, y4, yn, y5, e]
    exact fe _ (pr _)
  have y5' := of_decide_eq_false y5
  have w1 : IntKind.i64.wrap ((v.list.length : Int) - (n : Int)) = (v.list.length : Int) - (n : Int) := wrap64 (by omega) (by omega)
  cases y6 : decide ((v.list.length : Int) - (n : Int) = (k : Int))
  · have e := bad fun h => of_decide_eq_false y6 (by have := h.2.2.1; simp only at this; omega)
    simp -dsimp only [go_sem, F16, e_readS, r_readS, hcu, y1, y2, c_decode h2, hd, y3, y4, yn, y5, w1, y6, e]
    exact fe _ (pr _)
  have hnk : v.list.length = n + k := by have := of_decide_eq_true y6; omega
  simp -dsimp only [go_sem, F16, e_readS, r_readS, hcu, y1, y2, c_decode h2, hd, y3, y4, yn, y5, w1, y6]
  refine Ex.range (n := v.list.length) (fun i g T => g 1 = .int .i64 n ∧ g 61 = enc v.list ∧ Rows2 (S ++ [.cells (valL v)]) T (g 12) (g 13) n (v.list.take i)) (by decide) (by omega) rfl rfl
    ⟨rfl, rfl, Rows2.start List.prefix_rfl n _⟩ ?_ ?_
  · rintro i g T hi gi gn ⟨g1, g61, hR⟩
    have prT : S <+: T := (List.prefix_append _ _).trans hR.1.1
    have hM := hR.more [.cells (valL v.list[i])]
    cases z1 : decide ((i : Int) < (n : Int))
    · have z1' : ¬ i < n := by have := of_decide_eq_false z1; omega
      have z2 : decide ((n : Int) ≤ (i : Int)) = true := decide_eq_true (by omega)
      cases z3 : decide (v.list[i].kind = 2)
      · have e := bad fun h => by have := okS_bad hi (n := n) (by rw [if_neg z1']; exact z3); simp only at h; rw [this] at h; cases h.2.2.2
        simp -dsimp only [go_sem, gi, gn, g1, g61, ia_enc .i64 hi, ld_enc, z1, z2, z3, F16, r_readS, e]
        exact fe _ (prefix_app prT _)
      · simp -dsimp only [go_sem, gi, gn, g1, g61, ia_enc .i64 hi, ld_enc, z1, z2, z3, enc_b1]
        refine hM.byt hi (by omega) z1' z3 fun y' T' hR' => ?_
        simp -dsimp only [go_sem, gi, gn, g1, g61]
        exact hR'
    · have z1' : i < n := by have := of_decide_eq_true z1; omega
      cases z3 : decide (v.list[i].kind = 1)
      · have z2 : decide ((n : Int) ≤ (i : Int)) = false := decide_eq_false (by omega)
        have e := bad fun h => by have := okS_bad hi (n := n) (by rw [if_pos z1']; exact z3); simp only at h; rw [this] at h; cases h.2.2.2
        simp -dsimp only [go_sem, gi, gn, g1, g61, ia_enc .i64 hi, ld_enc, z1, z2, z3, F16, r_readS, e]
        exact fe _ (prefix_app prT _)
      · simp -dsimp only [go_sem, gi, gn, g1, g61, ia_enc .i64 hi, ld_enc, z1, z3, enc_i1]
        refine hM.num hi (by omega) z1' z3 fun x' T' hR' => ?_
        simp -dsimp only [go_sem, gi, gn, g1, g61]
        exact hR'
  · rintro g T gi ⟨g1, g61, hR⟩
    rw [List.take_length] at hR
    have e : readS b n k = (numsS n v.list, bytsS n v.list, 0) := by rw [hr, readSD, if_pos ⟨rfl, of_decide_eq_true y4, hnk, hR.2.2.2⟩]
    obtain ⟨hO1, hO2, _, _⟩ := hR
    simp -dsimp only [go_sem, gi, g1, g61, F16, r_readS, e]
    exact conv3 ((List.prefix_append _ _).trans hO1.1) (fun i hi => by have := hO1.ids i hi; simp at this; omega) (fun i hi => by have := hO2.ids i hi; simp at this; omega) hO1.rd hO2.rd
end Go.Proofs.YtaajlbbooneiiaaDoor.Avm
set_option linter.unusedVariables false
set_option linter.unusedSimpArgs false
set_option maxRecDepth 10000
namespace Go.Proofs.YtaajlbbooneiiaaDoor.Avm

theorem ok_readSR {E : Env} (hp : E.prim 19 = none) (hf : E.F 19 = some F19) (h1 : E.prim 12 = some fun _ => p_unpadR) (h2 : E.prim 49 = some fun _ => p_decodeR) : OkG E 19 e_readSR (gd k_readSR r_readSR) := by
  refine OkG.code hp hf (fun _ => rfl) fun ⟨b, n, k⟩ S hk => ?_
  have hk : b.length ≤ 9223372036854775000 ∧ n ≤ 4096 ∧ k ≤ 4096 := hk
  have pr : ∀ L : List AObj, S <+: S ++ L := fun L => List.prefix_append _ _
  have fe : ∀ T : Store, S <+: T → Conv S T (.tup [.nilS, .nilS, .int .i64 11]) S (.tup [enc ([] : List Int), enc ([] : List Bz), .int .i64 11]) := fun T hp =>
    conv3 hp (fun i h => by simp [topIds] at h) (fun i h => by simp [topIds] at h) rfl rfl
  have hcu : ∀ (T : Store) (K : AV → Store → Prop) (q : Dm K), SpD E 12 [enc b] T K q = K (.tup [enc (unpadP b).1, .int .i64 (unpadP b).2]) T := fun T K q => c_unpadR h1 b hk.1
  have hul := unpadP_len b
  cases y1 : decide ((unpadP b).2 = 0)
  · have e : readS b n k = ([], [], 11) := if_neg fun h => of_decide_eq_false y1 h.1
    simp -dsimp only [go_sem, F19, e_readSR, r_readSR, hcu, y1, e]
    exact fe _ List.prefix_rfl
  cases y2 : decide ((b.length : Int) = 120)
  · have e : readS b n k = ([], [], 11) := if_neg fun h => of_decide_eq_false y2 (by omega)
    simp -dsimp only [go_sem, F19, e_readSR, r_readSR, hcu, y1, y2, e]
    exact fe _ List.prefix_rfl
  have hb : b.length = 120 := by have := of_decide_eq_true y2; omega
  obtain ⟨d, hd⟩ : ∃ d, decodeP (unpadP b).1 = d := ⟨_, rfl⟩
  have hr : readS b n k = readSD n k d := by rw [readS, if_pos ⟨of_decide_eq_true y1, hb⟩, hd]
  have bad : ¬ (d.2 = 0 ∧ d.1.kind = 3 ∧ d.1.list.length = n + k ∧ okS n d.1.list = true) → readS b n k = ([], [], 11) := fun h => by rw [hr, readSD, if_neg h]
  have cd := fun (T : Store) (K : AV → Store → Prop) (q : Dm K) => c_decodeR h2 (unpadP b).1 (S := T) (K := K) (d := q)
  rw [hd] at cd
  cases y3 : decide (d.2 = 0)
  · have e := bad fun h => of_decide_eq_false y3 h.1
    simp -dsimp only [go_sem, F19, e_readSR, r_readSR, hcu, y1, y2, cd, y3, e]
    exact fe _ (pr _)
  obtain ⟨v, e0⟩ := d
  have y3' : e0 = 0 := of_decide_eq_true y3
  subst y3'
  obtain ⟨⟨hpu, hde, hby⟩, hbv⟩ := decode_inv hd
  have hvl := (pure_llen hpu).1
  cases y4 : decide (v.kind = 3)
  · have e := bad fun h => of_decide_eq_false y4 h.2.1
    simp -dsimp only [go_sem, F19, e_readSR, r_readSR, hcu, y1, y2, cd, y3, y4, e]
    exact fe _ (pr _)
  have yn : decide ((n : Int) < 0) = false := decide_eq_false (by omega)
  have yk : decide ((k : Int) < 0) = false := decide_eq_false (by omega)
  have yn2 : decide ((4096 : Int) < (n : Int)) = false := decide_eq_false (by omega)
  have yk2 : decide ((4096 : Int) < (k : Int)) = false := decide_eq_false (by omega)
  have w1 : IntKind.i64.wrap ((n : Int) + (k : Int)) = (n : Int) + (k : Int) := wrap64 (by omega) (by omega)
  cases y6 : decide ((v.list.length : Int) = (n : Int) + (k : Int))
  · have e := bad fun h => of_decide_eq_false y6 (by have := h.2.2.1; simp only at this; omega)
    simp -dsimp only [go_sem, F19, e_readSR, r_readSR, hcu, y1, y2, cd, y3, y4, yn, yk, yn2, yk2, w1, y6, e]
    exact fe _ (pr _)
  have hnk : v.list.length = n + k := by have := of_decide_eq_true y6; omega
  simp -dsimp only [go_sem, F19, e_readSR, r_readSR, hcu, y1, y2, cd, y3, y4, yn, yk, yn2, yk2, w1, y6]
  refine Ex.count (n := v.list.length) (i0 := 0) (fun i g T => g 1 = .int .i64 n ∧ g 11 = .ptr S.length 0 ∧ Rows2 (S ++ [.cells (valL v)]) T (g 12) (g 13) n (v.list.take i)) (by decide) (by omega) rfl (by omega)
    ⟨rfl, rfl, Rows2.start List.prefix_rfl n _⟩ ?_ ?_ ?_
  · rintro i g T hi gi ⟨g1, g11, hR⟩
    have b1 : T[S.length]? = some (.cells (valL v)) := prefix_get hR.1.1 (get_new0 _ _)
    simp -dsimp only [go_sem, gi, g1, g11, b1]
  · rintro i g T hi gi ⟨g1, g11, hR⟩
    have prT : S <+: T := (List.prefix_append _ _).trans hR.1.1
    have b1 : T[S.length]? = some (.cells (valL v)) := prefix_get hR.1.1 (get_new0 _ _)
    cases z1 : decide ((i : Int) < (n : Int))
    · have z1' : ¬ i < n := by have := of_decide_eq_false z1; omega
      cases z3 : decide (v.list[i].kind = 2)
      · have e := bad fun h => by have := okS_bad hi (n := n) (by rw [if_neg z1']; exact z3); simp only at h; rw [this] at h; cases h.2.2.2
        simp -dsimp only [go_sem, gi, g1, g11, b1, ia_enc .i64 hi, ld_enc, z1, z3, F19, r_readSR, e]
        exact fe _ prT
      · simp -dsimp only [go_sem, gi, g1, g11, b1, ia_enc .i64 hi, ld_enc, z1, z3, enc_b1]
        refine hR.byt hi (by omega) z1' z3 fun y' T' hR' => ?_
        simp -dsimp only [go_sem, gi, g1, g11]
        exact hR'
    · have z1' : i < n := by have := of_decide_eq_true z1; omega
      cases z3 : decide (v.list[i].kind = 1)
      · have e := bad fun h => by have := okS_bad hi (n := n) (by rw [if_pos z1']; exact z3); simp only at h; rw [this] at h; cases h.2.2.2
        simp -dsimp only [go_sem, gi, g1, g11, b1, ia_enc .i64 hi, ld_enc, z1, z3, F19, r_readSR, e]
        exact fe _ prT
      · simp -dsimp only [go_sem, gi, g1, g11, b1, ia_enc .i64 hi, ld_enc, z1, z3, enc_i1]
        refine hR.num hi (by omega) z1' z3 fun x' T' hR' => ?_
        simp -dsimp only [go_sem, gi, g1, g11]
        exact hR'
  · rintro g T gi ⟨g1, g11, hR⟩
    rw [List.take_length] at hR
    have e : readS b n k = (numsS n v.list, bytsS n v.list, 0) := by rw [hr, readSD, if_pos ⟨rfl, of_decide_eq_true y4, hnk, hR.2.2.2⟩]
    obtain ⟨hO1, hO2, _, _⟩ := hR
    simp -dsimp only [go_sem, gi, g1, g11, F19, r_readSR, e]
    exact conv3 ((List.prefix_append _ _).trans hO1.1) (fun i hi => by have := hO1.ids i hi; simp at this; omega) (fun i hi => by have := hO2.ids i hi; simp at this; omega) hO1.rd hO2.rd

/-! ### the plain law -/
theorem right_rec {l : List Int} {m : List Bz} (hn : numsOk l = true) (h1 : l.length ≤ 40) (h2 : m.length ≤ 40) (h3 : ∀ z, z ∈ m → z.b.length ≤ 300) : rightV (recV l m) := by
  have hq := (numsOk_all l).1 hn
  have hmem : ∀ w, w ∈ (l.map numV ++ m.map fun z => rawV z.b) → pureA w = true ∧ deepA w = 0 ∧ (bytesA w).length ≤ 304 := fun w hw => by
    rcases List.mem_append.1 hw with h | h
    · obtain ⟨n, hnm, rfl⟩ := List.mem_map.1 h
      exact ⟨pure_num (hq n hnm).1 (hq n hnm).2, deep_num n, by have := len_num n; omega⟩
    · obtain ⟨z, hz, rfl⟩ := List.mem_map.1 h
      have := h3 z hz
      exact ⟨pure_raw (by omega), deep_raw _, by rw [len_raw (by omega)]; omega⟩
  have hll : (l.map numV ++ m.map fun z => rawV z.b).length ≤ 80 := by simp; omega
  refine ⟨pure_list (by omega) fun w hw => (hmem w hw).1, Nat.le_trans (deep_list (d := 0) fun w hw => by rw [(hmem w hw).2.1]; exact Nat.le_refl _) (by omega), ?_⟩
  have hb := bytesAL_le (c := 304) fun w hw => (hmem w hw).2.2
  have hb2 := Nat.mul_le_mul_right 304 hll
  rw [recV, len_list (by omega)]; omega
theorem nums_right {l : List Int} {m : List Bz} (h : rightV (recV l m)) : numsOk l = true := (numsOk_all l).2 fun n hn => by
  have := pureA_1 (pureA_list h.1 (numV n) (List.mem_append.2 (.inl (List.mem_map.2 ⟨n, hn, rfl⟩))))
  exact (pure1_1 this rfl).1
theorem enc_back (l : List Int) (m : List Bz) : okS l.length (l.map numV ++ m.map fun z => rawV z.b) = true ∧ numsS l.length (l.map numV ++ m.map fun z => rawV z.b) = l ∧ bytsS l.length (l.map numV ++ m.map fun z => rawV z.b) = m := by
  have t : (l.map numV ++ m.map fun z => rawV z.b).take l.length = l.map numV := List.take_left' (by simp)
  have d : (l.map numV ++ m.map fun z => rawV z.b).drop l.length = m.map fun z => rawV z.b := List.drop_left' (by simp)
  refine ⟨?_, ?_, ?_⟩
  · unfold okS; rw [t, d]
    simp [List.all_map, numV, rawV, Val.kind]
  · unfold numsS; rw [t, List.map_map]
    exact (List.map_congr_left fun n _ => rfl).trans (List.map_id' l)
  · unfold bytsS; rw [d, List.map_map]
    exact (List.map_congr_left fun z _ => rfl).trans (List.map_id' m)
theorem pad120 {x : List UInt8} (h : (padP x 120).2 = 0) : (padP x 120).1.length = 120 := by
  have e : padP x 120 = if (120 - 2 : Int) < (x.length : Int) then ([], 3) else (padB x (120 : Int).toNat, 0) := if_neg (by decide)
  rw [e] at h ⊢
  by_cases hx : (120 - 2 : Int) < (x.length : Int)
  · rw [if_pos hx] at h; cases h
  · rw [if_neg hx, padB_len, show (120 : Int).toNat = 120 from rfl]; omega
theorem small_back {l : List Int} {m : List Bz} (h : (smallP l m).2 = 0) : (smallP l m).1.length = 120 ∧ readS (smallP l m).1 l.length m.length = (l, m, 0) := by
  unfold smallP at h ⊢
  split at h
  · rename_i he
    rw [if_pos he]
    have hv : rightV (recV l m) := by
      unfold encodeP at he
      split at he
      · rename_i hs; exact (size_iff _).1 hs
      · cases he
    have hu := (unpad_pad h).1
    rw [encode_ok hv] at h hu ⊢
    have hl : (padP (bytesA (recV l m)) 120).1.length = 120 := pad120 h
    refine ⟨hl, ?_⟩
    obtain ⟨e1, e2, e3⟩ := enc_back l m
    unfold readS
    simp only at hu ⊢
    rw [hu, if_pos ⟨rfl, hl⟩, decode_put hv, readSD, if_pos ⟨rfl, rfl, by simp [recV, listV, Val.list], e1⟩]
    show (numsS l.length (l.map numV ++ m.map fun z => rawV z.b), bytsS l.length (l.map numV ++ m.map fun z => rawV z.b), (0 : Int)) = _
    rw [e2, e3]
  · rename_i he; exact absurd h he
theorem readS_len (b : List UInt8) (n k : Nat) (hn : n ≤ 4096) : (readS b n k).1.length ≤ 4096 ∧ (readS b n k).2.1.length ≤ 4096 ∧ ∀ z, z ∈ (readS b n k).2.1 → z.b.length ≤ 1048576 := by
  unfold readS
  split
  · obtain ⟨d, hd⟩ : ∃ d, decodeP (unpadP b).1 = d := ⟨_, rfl⟩
    rw [hd, readSD]
    split
    · rename_i h
      obtain ⟨v, e0⟩ := d
      have he : e0 = 0 := h.1
      subst he
      obtain ⟨⟨hpu, _, _⟩, _⟩ := decode_inv hd
      have hvl := (pure_llen hpu).1
      refine ⟨by simp [numsS]; omega, by simp [bytsS]; omega, fun z hz => ?_⟩
      obtain ⟨w, hw, rfl⟩ := List.mem_map.1 hz
      exact (pure_llen (pureA_list hpu w (List.mem_of_mem_drop hw))).2
    · exact ⟨by simp, by simp, fun z hz => by cases hz⟩
  · exact ⟨by simp, by simp, fun z hz => by cases hz⟩
theorem ok_recordSmall {E : Env} (hp : E.prim 4 = none) (hf : E.F 4 = some F4) (h1 : E.prim 7 = some fun _ => p_awake35) (h2 : E.prim 13 = some fun _ => p_small) (h3 : E.prim 9 = some fun _ => p_padR)
    (h4 : E.prim 16 = some fun _ => p_readS) (h5 : E.prim 19 = some fun _ => p_readSR) (h6 : E.prim 10 = some fun _ => p_bsame) (h7 : E.prim 14 = some fun _ => p_numbersR) (h8 : E.prim 15 = some fun _ => p_recordR)
    (h9 : E.prim 17 = some fun _ => p_ints) (h10 : E.prim 18 = some fun _ => p_same35) : OkS E 4 e_recordSmall (gd k_recordSmall r_recordSmall) := by
  refine OkS.code hp hf (fun _ => rfl) fun ⟨l, m, b⟩ hk => ?_
  have hk : l.length ≤ 9223372036854775807 ∧ m.length ≤ 9223372036854775807 ∧ b.length ≤ 9223372036854775807 := hk
  cases x1 : decide ((40 : Int) < (l.length : Int))
  rotate_left
  · simp -dsimp only [go_sem, F4, e_recordSmall, r_recordSmall, c_awake35 h1, x1]
  cases x2 : decide ((40 : Int) < (m.length : Int))
  rotate_left
  · simp -dsimp only [go_sem, F4, e_recordSmall, r_recordSmall, c_awake35 h1, x1, x2]
  cases x3 : decide ((2000 : Int) < (b.length : Int))
  rotate_left
  · simp -dsimp only [go_sem, F4, e_recordSmall, r_recordSmall, c_awake35 h1, x1, x2, x3]
  have hl : l.length ≤ 40 := by have := of_decide_eq_false x1; omega
  have hm : m.length ≤ 40 := by have := of_decide_eq_false x2; omega
  have hb : b.length ≤ 2000 := by have := of_decide_eq_false x3; omega
  simp -dsimp only [go_sem, F4, e_recordSmall, c_awake35 h1, x1, x2, x3]
  refine Ex.range (n := m.length) (fun i g T => g 0 = enc l ∧ g 1 = enc m ∧ g 2 = enc b ∧ g 37 = enc m ∧ T = [] ∧ ∀ z, z ∈ m.take i → z.b.length ≤ 300) (by decide) (by omega) rfl rfl ⟨rfl, rfl, rfl, rfl, rfl, fun z hz => by cases hz⟩ ?_ ?_
  · rintro i g T hi gi gn ⟨g0, g1, g2, g37, rfl, hI⟩
    cases y : decide ((300 : Int) < (m[i].b.length : Int))
    · simp -dsimp only [go_sem, gi, gn, g0, g1, g2, g37, ia_enc .i64 hi, y]
      intro z hz
      rw [List.take_succ_eq_append_getElem hi, List.mem_append, List.mem_singleton] at hz
      rcases hz with hz | rfl
      · exact hI z hz
      · have := of_decide_eq_false y; omega
    · simp -dsimp only [go_sem, gi, gn, g0, g1, g2, g37, ia_enc .i64 hi, y, F4, r_recordSmall]
  · rintro g T gi ⟨g0, g1, g2, g37, rfl, hI⟩
    rw [List.take_length] at hI
    have csm := fun (S : Store) (K : AV → Store → Prop) (d : Dm K) => c_small h2 l m ⟨by omega, by omega⟩ (S := S) (K := K) (d := d)
    have cn := fun (S : Store) (K : AV → Store → Prop) (d : Dm K) => c_numbersR h7 l (by omega) (S := S) (K := K) (d := d)
    have cr1 := fun (S : Store) (K : AV → Store → Prop) (d : Dm K) => c_readS h4 b l.length m.length ⟨by omega, by omega, by omega⟩ (S := S) (K := K) (d := d)
    have cr2 := fun (S : Store) (K : AV → Store → Prop) (d : Dm K) => c_readSR h5 b l.length m.length ⟨by omega, by omega, by omega⟩ (S := S) (K := K) (d := d)
    have hq := readS_len b l.length m.length (by omega)
    have ci : ∀ (S : Store) (K : AV → Store → Prop) (d : Dm K), SpD E 17 [enc (readS b l.length m.length).1, enc (readS b l.length m.length).1] S K d = K (.bool true) S := fun S K d => by
      have := c_ints h9 (readS b l.length m.length).1 (readS b l.length m.length).1 (by omega) (S := S) (K := K) (d := d)
      rw [decide_eq_true rfl] at this; exact this
    have cs : ∀ (S : Store) (K : AV → Store → Prop) (d : Dm K), SpD E 18 [enc (readS b l.length m.length).2.1, enc (readS b l.length m.length).2.1] S K d = K (.bool true) S := fun S K d => by
      have := c_same35 h10 (readS b l.length m.length).2.1 (readS b l.length m.length).2.1 ⟨by omega, fun z hz => by have := hq.2.2 z hz; omega⟩ (S := S) (K := K) (d := d)
      rw [decide_eq_true rfl] at this; exact this
    cases yn : numsOk l
    · have he : (encodeP (recV l m)).2 = 2 ∧ (encodeP (recV l m)).1 = [] := by
        unfold encodeP
        rw [if_neg (fun h => by have := nums_right ((size_iff _).1 h); rw [yn] at this; cases this)]
        exact ⟨rfl, rfl⟩
      have e : smallP l m = ([], 2) := by rw [smallP, if_neg (by rw [he.1]; decide), he.1]
      simp -dsimp only [go_sem, gi, g0, g1, g2, csm, e, cn, yn, cr1, cr2, ci, cs, F4, r_recordSmall]
    · have hv := right_rec yn hl hm hI
      have e : smallP l m = padP (bytesA (recV l m)) 120 := by rw [smallP, encode_ok hv]; exact if_pos rfl
      have cc := fun (S : Store) (K : AV → Store → Prop) (d : Dm K) => c_recordR h8 l m hv (S := S) (K := K) (d := d)
      have cp := fun (S : Store) (K : AV → Store → Prop) (d : Dm K) => c_padR h3 (bytesA (recV l m)) 120 (by have := hv.2.2; omega) (S := S) (K := K) (d := d)
      have hpl := padP_len (bytesA (recV l m)) 120
      have cx : ∀ (S : Store) (K : AV → Store → Prop) (d : Dm K), SpD E 10 [enc (padP (bytesA (recV l m)) 120).1, enc (padP (bytesA (recV l m)) 120).1] S K d = K (.bool true) S := fun S K d => by
        have := c_bsame h6 (padP (bytesA (recV l m)) 120).1 (padP (bytesA (recV l m)) 120).1 (by omega) (S := S) (K := K) (d := d)
        rw [decide_eq_true rfl] at this; exact this
      cases y2 : decide ((padP (bytesA (recV l m)) 120).2 = 0)
      · simp -dsimp only [go_sem, gi, g0, g1, g2, csm, e, cn, yn, cc, cp, cx, y2, cr1, cr2, ci, cs, F4, r_recordSmall]
      · have hs := small_back (l := l) (m := m) (by rw [e]; exact of_decide_eq_true y2)
        rw [e] at hs
        have cr3 := fun (S : Store) (K : AV → Store → Prop) (d : Dm K) => c_readS h4 (padP (bytesA (recV l m)) 120).1 l.length m.length ⟨by omega, by omega, by omega⟩ (S := S) (K := K) (d := d)
        rw [hs.2] at cr3
        have ci2 : ∀ (S : Store) (K : AV → Store → Prop) (d : Dm K), SpD E 17 [enc l, enc l] S K d = K (.bool true) S := fun S K d => by
          have := c_ints h9 l l (by omega) (S := S) (K := K) (d := d)
          rw [decide_eq_true rfl] at this; exact this
        have cs2 : ∀ (S : Store) (K : AV → Store → Prop) (d : Dm K), SpD E 18 [enc m, enc m] S K d = K (.bool true) S := fun S K d => by
          have := c_same35 h10 m m ⟨by omega, fun z hz => by have := hI z hz; omega⟩ (S := S) (K := K) (d := d)
          rw [decide_eq_true rfl] at this; exact this
        simp -dsimp only [go_sem, gi, g0, g1, g2, csm, e, cn, yn, cc, cp, cx, y2, cr3, ci2, cs2, cr1, cr2, ci, cs, F4, r_recordSmall]
end Go.Proofs.YtaajlbbooneiiaaDoor.Avm
set_option linter.unusedVariables false
set_option linter.unusedSimpArgs false
set_option maxRecDepth 10000
namespace Go.Proofs.YtaajlbbooneiiaaDoor.Avm

end Go.Proofs.YtaajlbbooneiiaaDoor.Avm
set_option linter.unusedVariables false
set_option linter.unusedSimpArgs false
set_option maxRecDepth 10000
namespace Go.Proofs.YtaajlbbooneiiaaDoor.Avm

theorem mems_back : ∀ l : List Mem, memsOf (l.map memV) = some l
  | [] => rfl
  | x :: l => by
    have hf : (fieldsP (memV x) ks2).2 = true := by simp [fieldsP, memV, listV, rawV, numV, Val.kind, Val.list, ks2]
    have hm : memOf (memV x) = x := rfl
    rw [List.map_cons, memsOf, if_pos hf, mems_back l, hm]; rfl
theorem maniOf_back (m : Mani) : maniOf (maniVs m) m.members = m := by
  have : decide (goneN m = 1) = m.gone := by unfold goneN; cases m.gone <;> rfl
  show Mani.mk m.folder m.seq m.prev m.parent m.members m.cut (decide (goneN m = 1)) m.by' = m
  rw [this]
theorem fields9 (m : Mani) : (fieldsP (maniV m) ks9).2 = true := by simp [fieldsP, maniV, maniVs, listV, rawV, numV, Val.kind, Val.list, ks9]
theorem read_text {m : Mani} (h : mayP m = true) : readM (bytesA (maniV m)) = (m, 0) := by
  have hg : ¬ 1 < goneN m := by unfold goneN; cases m.gone <;> simp
  rw [readM, decode_put (right_mani h)]
  unfold readD
  rw [if_neg (by simp), if_neg (fun q => q.elim (fun q => by rw [fields9] at q; cases q) fun q => q rfl)]
  show (memsOf (m.members.map memV)).elim _ _ = _
  rw [mems_back]
  show (if mayP (maniOf (maniVs m) m.members) = false ∨ 1 < goneN m then _ else _) = _
  rw [maniOf_back, if_neg (fun q => q.elim (fun q => by rw [h] at q; cases q) hg)]
  exact congrArg (fun x => (x, (0 : Int))) (maniOf_back m)
end Go.Proofs.YtaajlbbooneiiaaDoor.Avm
set_option linter.unusedVariables false
set_option linter.unusedSimpArgs false
set_option maxRecDepth 10000
namespace Go.Proofs.YtaajlbbooneiiaaDoor.Avm

def readRD (d : Val × Int) (b : List UInt8) : Mani × Int :=
  if d.2 ≠ 0 then (mani0, d.2)
  else if (fieldsP d.1 ks9).2 = false then (mani0, 11)
  else (memsOf (at0 d.1.list 5).list).elim (mani0, 11) fun ms => if mayP (maniOf d.1.list ms) = false ∨ bytesA (maniV (maniOf d.1.list ms)) ≠ b then (mani0, 11) else (maniOf d.1.list ms, 0)
def ksS : List Int := [2, 2]
def splitD (d : Val × Int) : List UInt8 × List UInt8 × Int :=
  if d.2 ≠ 0 then ([], [], d.2) else if (fieldsP d.1 ksS).2 = false then ([], [], 11) else ((at0 d.1.list 0).bytes, (at0 d.1.list 1).bytes, 0)
def splitP (b : List UInt8) : List UInt8 × List UInt8 × Int := splitD (decodeP b)
/-! ### the document's reading is the program's -/
theorem val_eta (v : Val) : v = .mk v.kind v.num v.bytes v.list := by cases v; rfl
theorem pure_raw_eq {v : Val} (h : pureA v = true) (k : v.kind = 2) : v = rawV v.bytes := by
  obtain ⟨h1, h2, h3⟩ := pure1_2 (pureA_1 h) k
  rw [val_eta v, k, h1, List.eq_nil_of_length_eq_zero h3]; rfl
theorem pure_num_eq {v : Val} (h : pureA v = true) (k : v.kind = 1) : v = numV v.num := by
  obtain ⟨h1, h2, h3⟩ := pure1_1 (pureA_1 h) k
  rw [val_eta v, k, List.eq_nil_of_length_eq_zero h2, List.eq_nil_of_length_eq_zero h3]; rfl
theorem pure_list_eq {v : Val} (h : pureA v = true) (k : v.kind = 3) : v = listV v.list := by
  obtain ⟨_, h1, h2, h3⟩ := pure1_3 (pureA_1 h) (by omega) (by omega)
  rw [val_eta v, k, h1, List.eq_nil_of_length_eq_zero h2]; rfl
theorem len2 {l : List Val} (h : l.length = 2) : l = [at0 l 0, at0 l 1] := by
  match l, h with
  | [a, b], _ => rfl
theorem len9 {l : List Val} (h : l.length = 9) : l = [at0 l 0, at0 l 1, at0 l 2, at0 l 3, at0 l 4, at0 l 5, at0 l 6, at0 l 7, at0 l 8] := by
  match l, h with
  | [a, b, c, d, e, f, g, i, j], _ => rfl
theorem mem_back {x : Val} (h : pureA x = true) (hf : (fieldsP x ks2).2 = true) : memV (memOf x) = x := by
  obtain ⟨f1, f2, f3, f4⟩ := fields_len hf
  have f2 : x.list.length = 2 := f2
  have hl := len2 f2
  have hp := pureA_list h
  rw [hl] at f4
  simp only [List.map_cons, List.map_nil, ks2, List.cons.injEq, and_true] at f4
  have h0 : at0 x.list 0 ∈ x.list := by rw [← at0_get (by omega)]; exact List.getElem_mem _
  have h1 : at0 x.list 1 ∈ x.list := by rw [← at0_get (by omega)]; exact List.getElem_mem _
  have e0 := pure_raw_eq (hp _ h0) f4.1
  have e1 := pure_num_eq (hp _ h1) f4.2
  have e2 := pure_list_eq h f3
  rw [e2, hl, e0, e1]; rfl
theorem mems_back2 : ∀ {l : List Val} {ms : List Mem}, (∀ w, w ∈ l → pureA w = true) → memsOf l = some ms → ms.map memV = l
  | [], ms, _, h => by simp only [memsOf, Option.some.injEq] at h; subst h; rfl
  | x :: l, ms, hp, h => by
    simp only [memsOf] at h
    split at h
    · rename_i hx
      obtain ⟨m, h1, rfl⟩ := Option.map_eq_some_iff.1 h
      rw [List.map_cons, mem_back (hp x List.mem_cons_self) hx, mems_back2 (fun w hw => hp w (List.mem_cons_of_mem _ hw)) h1]
    · cases h
theorem mani_iff {v : Val} (hr : rightV v) (hf : (fieldsP v ks9).2 = true) {ms : List Mem} (hm : memsOf (at0 v.list 5).list = some ms) (hmay : mayP (maniOf v.list ms) = true) :
    bytesA (maniV (maniOf v.list ms)) = bytesA v ↔ ((at0 v.list 0).bytes = markM ∧ ¬ 1 < (at0 v.list 7).num) := by
  obtain ⟨f1, f2, f3, f4⟩ := fields_len hf
  have f2 : v.list.length = 9 := f2
  have hl := len9 f2
  have hp := pureA_list hr.1
  have f4' := f4
  rw [hl] at f4'
  simp only [List.map_cons, List.map_nil, ks9, List.cons.injEq, and_true] at f4'
  obtain ⟨k0, k1, k2, k3, k4, k5, k6, k7, k8⟩ := f4'
  have hat : ∀ i, i < 9 → pureA (at0 v.list i) = true := fun i hi => by rw [← at0_get (by omega)]; exact hp _ (List.getElem_mem _)
  have e0 := pure_raw_eq (hat 0 (by omega)) k0
  have e1 := pure_raw_eq (hat 1 (by omega)) k1
  have e2 := pure_num_eq (hat 2 (by omega)) k2
  have e3 := pure_raw_eq (hat 3 (by omega)) k3
  have e4 := pure_raw_eq (hat 4 (by omega)) k4
  have e5 := pure_list_eq (hat 5 (by omega)) k5
  have e6 := pure_num_eq (hat 6 (by omega)) k6
  have e7 := pure_num_eq (hat 7 (by omega)) k7
  have e8 := pure_raw_eq (hat 8 (by omega)) k8
  have ev := pure_list_eq hr.1 f3
  have hms := mems_back2 (at_list hp 5) hm
  have hn := (pure1_1 (pureA_1 (hat 7 (by omega))) k7).1
  constructor
  · intro h
    have := bytesA_inj (right_mani hmay) hr h
    rw [ev] at this
    simp only [maniV, listV, Val.mk.injEq, true_and] at this
    rw [hl] at this
    simp only [maniVs, List.cons.injEq, and_true] at this
    obtain ⟨a0, a1, a2, a3, a4, a5, a6, a7, a8⟩ := this
    refine ⟨?_, ?_⟩
    · rw [← a0]; rfl
    · rw [← a7]
      show ¬ 1 < goneN _
      unfold goneN; split <;> decide
  · rintro ⟨h1, h2⟩
    have hg : goneN (maniOf v.list ms) = (at0 v.list 7).num := by
      have h01 : (at0 v.list 7).num = 0 ∨ (at0 v.list 7).num = 1 := by omega
      unfold goneN maniOf
      rcases h01 with h | h <;> simp [h]
    have : maniV (maniOf v.list ms) = v := by
      conv => rhs; rw [ev, hl, e0, e1, e2, e3, e4, e5, e6, e7, e8]
      simp only [maniV, maniVs, hg, h1]
      rw [show (maniOf v.list ms).members = ms from rfl, hms]; rfl
    rw [this]
theorem readRD_0 (v : Val) (b : List UInt8) : readRD (v, 0) b = if (fieldsP v ks9).2 = false then (mani0, 11) else (memsOf (at0 v.list 5).list).elim (mani0, 11) fun ms => if mayP (maniOf v.list ms) = false ∨ bytesA (maniV (maniOf v.list ms)) ≠ b then (mani0, 11) else (maniOf v.list ms, 0) := by
  unfold readRD; rw [if_neg (by simp)]
theorem readD_0 (v : Val) : readD (v, 0) = if (fieldsP v ks9).2 = false ∨ (at0 v.list 0).bytes ≠ markM then (mani0, 11) else (memsOf (at0 v.list 5).list).elim (mani0, 11) fun ms => if mayP (maniOf v.list ms) = false ∨ 1 < (at0 v.list 7).num then (mani0, 11) else (maniOf v.list ms, 0) := by
  unfold readD; rw [if_neg (by simp)]
theorem readR_eq (b : List UInt8) : readRD (decodeP b) b = readM b := by
  obtain ⟨d, hd⟩ : ∃ d, decodeP b = d := ⟨_, rfl⟩
  rw [readM, hd]
  by_cases h0 : d.2 = 0
  · obtain ⟨v, e⟩ := d
    simp only at h0
    subst h0
    obtain ⟨hr, hb⟩ := decode_inv hd
    rw [readRD_0, readD_0]
    cases hf : (fieldsP v ks9).2 with
    | false => rw [if_pos rfl, if_pos (.inl rfl)]
    | true =>
      rw [if_neg (by decide)]
      by_cases hmk : (at0 v.list 0).bytes = markM
      · rw [if_neg (fun h => h.elim (fun h => by cases h) fun h => h hmk)]
        cases hm : memsOf (at0 v.list 5).list with
        | none => rfl
        | some ms =>
          simp only [Option.elim_some]
          cases hy : mayP (maniOf v.list ms) with
          | false => rw [if_pos (.inl rfl), if_pos (.inl rfl)]
          | true =>
            have hi := mani_iff hr hf hm hy
            rw [← hb] at hi
            by_cases h1 : 1 < (at0 v.list 7).num
            · rw [if_pos (.inr fun q => (hi.1 q).2 h1), if_pos (.inr h1)]
            · rw [if_neg (fun q => q.elim (fun q => by cases q) fun q => q (hi.2 ⟨hmk, h1⟩)), if_neg (fun q => q.elim (fun q => by cases q) h1)]
      · rw [if_pos (.inr hmk)]
        cases hm : memsOf (at0 v.list 5).list with
        | none => rfl
        | some ms =>
          simp only [Option.elim_some]
          cases hy : mayP (maniOf v.list ms) with
          | false => rw [if_pos (.inl rfl)]
          | true =>
            have hi := mani_iff hr hf hm hy
            rw [← hb] at hi
            rw [if_pos (.inr fun q => hmk (hi.1 q).1)]
  · unfold readRD readD
    rw [if_pos h0, if_pos h0]
theorem read_back {b : List UInt8} {m : Mani} (h : readM b = (m, 0)) : mayP m = true ∧ bytesA (maniV m) = b := by
  rw [← readR_eq] at h
  unfold readRD at h
  split at h
  · rename_i h0; simp only [Prod.mk.injEq] at h; exact absurd h.2 h0
  · split at h
    · simp at h
    · cases hm : memsOf (at0 (decodeP b).1.list 5).list with
      | none => rw [hm] at h; simp at h
      | some ms =>
        rw [hm] at h
        simp only [Option.elim_some] at h
        split at h
        · simp at h
        · rename_i hc
          simp only [Prod.mk.injEq, and_true] at h
          simp only [not_or, Bool.not_eq_false, ne_eq, Decidable.not_not] at hc
          rw [← h]; exact hc
theorem readM_long (b : List UInt8) : longM (readM b).1 := by
  have h0 : longM mani0 := ⟨by simp [mani0], by simp [mani0], by simp [mani0], ⟨by simp [mani0], fun x hx => by cases hx⟩, by simp [mani0]⟩
  unfold readM readD
  split
  · exact h0
  · rename_i he
    split
    · exact h0
    · simp only [ne_eq, Decidable.not_not] at he
      obtain ⟨hr, hb⟩ := decode_inv (b := b) (v := (decodeP b).1) (Prod.ext rfl he)
      cases hm : memsOf (at0 (decodeP b).1.list 5).list with
      | none => exact h0
      | some ms =>
        simp only [Option.elim_some]
        split
        · exact h0
        · exact maniOf_long (pureA_list hr.1) (by rw [memsOf_len hm]; exact (at_len (pureA_list hr.1) 5).1) (mems_long (at_list (pureA_list hr.1) 5) hm)
end Go.Proofs.YtaajlbbooneiiaaDoor.Avm
