/- Small records: what the functions answer; records made. Small records: the document's; lists compared. Small records read. Small records read by the document; the law. The environment of the codec, above blobs. The environment of the law of small records. The row and the card of the law RecordSmall. -/
import Derived.Test.YtaajlbbooneiiaaDoorZ13
set_option linter.unusedVariables false
set_option linter.unusedSimpArgs false
set_option maxRecDepth 10000
namespace Go.Proofs.YtaajlbbooneiiaaDoor.Avm

/-- bytes as a list's element -/
structure Bz where
  b : List UInt8
instance : Rec Bz where
  sz := 1
  c := fun z => [enc z.b]
  len := fun _ => rfl
  pos := by decide
  inj := fun a b h => by
    simp only [List.cons.injEq, enc_inj, and_true] at h
    cases a; cases b; simp only at h; rw [h]
  pure := fun z => rd0L_cons (enc_rd0 z.b) .nil
@[go_sem] theorem c_bz (z : Bz) : Rec.c z = [enc z.b] := rfl
@[go_sem] theorem z_bz : Rec.sz Bz = 1 := rfl
theorem bz_inj {a b : Bz} : a.b = b.b ↔ a = b := by cases a; cases b; simp

def recV (l : List Int) (m : List Bz) : Val := listV (l.map numV ++ m.map fun z => rawV z.b)
def smallP (l : List Int) (m : List Bz) : List UInt8 × Int := if (encodeP (recV l m)).2 = 0 then padP (encodeP (recV l m)).1 120 else ([], (encodeP (recV l m)).2)
def okS (n : Nat) (l : List Val) : Bool := (l.take n).all (fun v => decide (v.kind = 1)) && (l.drop n).all (fun v => decide (v.kind = 2))
def numsS (n : Nat) (l : List Val) : List Int := (l.take n).map (·.num)
def bytsS (n : Nat) (l : List Val) : List Bz := (l.drop n).map fun v => ⟨v.bytes⟩
def readSD (n k : Nat) (d : Val × Int) : List Int × List Bz × Int :=
  if d.2 = 0 ∧ d.1.kind = 3 ∧ d.1.list.length = n + k ∧ okS n d.1.list = true then (numsS n d.1.list, bytsS n d.1.list, 0) else ([], [], 11)
def readS (b : List UInt8) (n k : Nat) : List Int × List Bz × Int := if (unpadP b).2 = 0 ∧ b.length = 120 then readSD n k (decodeP (unpadP b).1) else ([], [], 11)

def e_small : (List Int) × (List Bz) → List AV := fun | (l, m) => [enc l, enc m]
def k_small : (List Int) × (List Bz) → Prop := fun | (l, m) => l.length ≤ 100000 ∧ m.length ≤ 100000
def r_small : (List Int) × (List Bz) → AV := fun | (l, m) => .tup [enc (smallP l m).1, .int .i64 (smallP l m).2]
noncomputable def p_small : List AV → Store → Option (AV × Store) := primG e_small (gd k_small r_small)
theorem i_small : Inj e_small := by
  rintro ⟨l1, m1⟩ ⟨l2, m2⟩ h
  simpa only [e_small, enc_inj, rec_inj, AV.str.injEq, AV.int.injEq, AV.bool.injEq, AV.agg.injEq, AV.ptr.injEq, AV.fn.injEq, List.cons.injEq, and_true, true_and, Prod.mk.injEq] using h
theorem c_small {E : Env} (h : E.prim 13 = some fun _ => p_small) (l : List Int) (m : List Bz) (hk : l.length ≤ 100000 ∧ m.length ≤ 100000) {S : Store} {K : AV → Store → Prop} {d : Dm K} : SpD E 13 [enc l, enc m] S K d = K (.tup [enc (smallP l m).1, .int .i64 (smallP l m).2]) S := by
  have := callG h i_small (a := (l, m)) (S := S) (args := [enc l, enc m]) (K := K) (d := d) (by simp only [e_small, rdSL_cons, rdSL_nil, rdS_int, rdS_bool, rdS_str, enc_rdS, rdS_fn0, rdS_csl0, rdS_rec, rdSL_rec, rdS_agg, rdS_tup, Option.bind_some, Option.map_some]) hk
  simpa only [r_small, topL_cons, topL_nil, top_int, top_bool, top_str, top_csl, enc_top, top_agg, top_rec, top_fn, List.nil_append, killL_nil] using this
theorem c_small' {E : Env} (h : E.prim 13 = some fun _ => p_small) {S : Store} {x0 x1 : AV} {l : List Int} {m : List Bz} (h0 : rdS S x0 = some (enc l)) (h1 : rdS S x1 = some (enc m)) (hk : l.length ≤ 100000 ∧ m.length ≤ 100000) {K : AV → Store → Prop} {d : Dm K} : SpD E 13 [x0, x1] S K d = K (.tup [enc (smallP l m).1, .int .i64 (smallP l m).2]) (killL (topIdsL [x0, x1]) S) :=
  callG h i_small (a := (l, m)) (by simp only [e_small, rdSL, h0, h1, Option.bind_some, Option.map_some]) hk
def e_numbersR : List Int → List AV := fun l => [enc l]
def k_numbersR : List Int → Prop := fun l => l.length ≤ 9223372036854775000
def r_numbersR : List Int → AV := fun l => .bool (numsOk l)
noncomputable def p_numbersR : List AV → Store → Option (AV × Store) := primS e_numbersR (gd k_numbersR r_numbersR)
theorem i_numbersR : Inj e_numbersR := by
  intro l1 l2 h
  simpa only [e_numbersR, enc_inj, rec_inj, AV.str.injEq, AV.int.injEq, AV.bool.injEq, AV.agg.injEq, AV.ptr.injEq, AV.fn.injEq, List.cons.injEq, and_true, true_and, Prod.mk.injEq] using h
theorem c_numbersR {E : Env} (h : E.prim 14 = some fun _ => p_numbersR) (l : List Int) (hk : l.length ≤ 9223372036854775000) {S : Store} {K : AV → Store → Prop} {d : Dm K} : SpD E 14 [enc l] S K d = K (.bool (numsOk l)) S :=
  callS h i_numbersR (a := l) (by simp only [e_numbersR, rdSL_cons, rdSL_nil, rdS_int, rdS_bool, rdS_str, enc_rdS, rdS_fn0, rdS_csl0, rdS_rec, rdSL_rec, rdS_agg, rdS_tup, Option.bind_some, Option.map_some]) hk
theorem c_numbersR' {E : Env} (h : E.prim 14 = some fun _ => p_numbersR) {S : Store} {x0 : AV} {l : List Int} (h0 : rdS S x0 = some (enc l)) (hk : l.length ≤ 9223372036854775000) {K : AV → Store → Prop} {d : Dm K} : SpD E 14 [x0] S K d = K (.bool (numsOk l)) S :=
  callS h i_numbersR (a := l) (by simp only [e_numbersR, rdSL, h0, Option.bind_some, Option.map_some]) hk
def e_recordR : (List Int) × (List Bz) → List AV := fun | (l, m) => [enc l, enc m]
def k_recordR : (List Int) × (List Bz) → Prop := fun | (l, m) => rightV (recV l m)
def r_recordR : (List Int) × (List Bz) → AV := fun | (l, m) => enc (bytesA (recV l m))
noncomputable def p_recordR : List AV → Store → Option (AV × Store) := primG e_recordR (gd k_recordR r_recordR)
theorem i_recordR : Inj e_recordR := by
  rintro ⟨l1, m1⟩ ⟨l2, m2⟩ h
  simpa only [e_recordR, enc_inj, rec_inj, AV.str.injEq, AV.int.injEq, AV.bool.injEq, AV.agg.injEq, AV.ptr.injEq, AV.fn.injEq, List.cons.injEq, and_true, true_and, Prod.mk.injEq] using h
theorem c_recordR {E : Env} (h : E.prim 15 = some fun _ => p_recordR) (l : List Int) (m : List Bz) (hk : rightV (recV l m)) {S : Store} {K : AV → Store → Prop} {d : Dm K} : SpD E 15 [enc l, enc m] S K d = K (enc (bytesA (recV l m))) S := by
  have := callG h i_recordR (a := (l, m)) (S := S) (args := [enc l, enc m]) (K := K) (d := d) (by simp only [e_recordR, rdSL_cons, rdSL_nil, rdS_int, rdS_bool, rdS_str, enc_rdS, rdS_fn0, rdS_csl0, rdS_rec, rdSL_rec, rdS_agg, rdS_tup, Option.bind_some, Option.map_some]) hk
  simpa only [r_recordR, topL_cons, topL_nil, top_int, top_bool, top_str, top_csl, enc_top, top_agg, top_rec, top_fn, List.nil_append, killL_nil] using this
theorem c_recordR' {E : Env} (h : E.prim 15 = some fun _ => p_recordR) {S : Store} {x0 x1 : AV} {l : List Int} {m : List Bz} (h0 : rdS S x0 = some (enc l)) (h1 : rdS S x1 = some (enc m)) (hk : rightV (recV l m)) {K : AV → Store → Prop} {d : Dm K} : SpD E 15 [x0, x1] S K d = K (enc (bytesA (recV l m))) (killL (topIdsL [x0, x1]) S) :=
  callG h i_recordR (a := (l, m)) (by simp only [e_recordR, rdSL, h0, h1, Option.bind_some, Option.map_some]) hk
def e_readS : (List UInt8) × Nat × Nat → List AV := fun | (b, n, k) => [enc b, .int .i64 n, .int .i64 k]
def k_readS : (List UInt8) × Nat × Nat → Prop := fun | (b, n, k) => b.length ≤ 9223372036854775000 ∧ n ≤ 4096 ∧ k ≤ 4096
def r_readS : (List UInt8) × Nat × Nat → AV := fun | (b, n, k) => .tup [enc (readS b n k).1, enc (readS b n k).2.1, .int .i64 (readS b n k).2.2]
noncomputable def p_readS : List AV → Store → Option (AV × Store) := primG e_readS (gd k_readS r_readS)
theorem i_readS : Inj e_readS := by
  rintro ⟨b1, n1, k1⟩ ⟨b2, n2, k2⟩ h
  simpa only [e_readS, enc_inj, rec_inj, AV.str.injEq, AV.int.injEq, AV.bool.injEq, AV.agg.injEq, AV.ptr.injEq, AV.fn.injEq, List.cons.injEq, and_true, true_and, Prod.mk.injEq, Int.natCast_inj] using h
theorem c_readS {E : Env} (h : E.prim 16 = some fun _ => p_readS) (b : List UInt8) (n : Nat) (k : Nat) (hk : b.length ≤ 9223372036854775000 ∧ n ≤ 4096 ∧ k ≤ 4096) {S : Store} {K : AV → Store → Prop} {d : Dm K} : SpD E 16 [enc b, .int .i64 n, .int .i64 k] S K d = K (.tup [enc (readS b n k).1, enc (readS b n k).2.1, .int .i64 (readS b n k).2.2]) S := by
  have := callG h i_readS (a := (b, n, k)) (S := S) (args := [enc b, .int .i64 n, .int .i64 k]) (K := K) (d := d) (by simp only [e_readS, rdSL_cons, rdSL_nil, rdS_int, rdS_bool, rdS_str, enc_rdS, rdS_fn0, rdS_csl0, rdS_rec, rdSL_rec, rdS_agg, rdS_tup, Option.bind_some, Option.map_some]) hk
  simpa only [r_readS, topL_cons, topL_nil, top_int, top_bool, top_str, top_csl, enc_top, top_agg, top_rec, top_fn, List.nil_append, killL_nil] using this
theorem c_readS' {E : Env} (h : E.prim 16 = some fun _ => p_readS) {S : Store} {x0 x1 x2 : AV} {b : List UInt8} {n : Nat} {k : Nat} (h0 : rdS S x0 = some (enc b)) (h1 : rdS S x1 = some (.int .i64 n)) (h2 : rdS S x2 = some (.int .i64 k)) (hk : b.length ≤ 9223372036854775000 ∧ n ≤ 4096 ∧ k ≤ 4096) {K : AV → Store → Prop} {d : Dm K} : SpD E 16 [x0, x1, x2] S K d = K (.tup [enc (readS b n k).1, enc (readS b n k).2.1, .int .i64 (readS b n k).2.2]) (killL (topIdsL [x0, x1, x2]) S) :=
  callG h i_readS (a := (b, n, k)) (by simp only [e_readS, rdSL, h0, h1, h2, Option.bind_some, Option.map_some]) hk
def e_readSR : (List UInt8) × Nat × Nat → List AV := fun | (b, n, k) => [enc b, .int .i64 n, .int .i64 k]
def k_readSR : (List UInt8) × Nat × Nat → Prop := fun | (b, n, k) => b.length ≤ 9223372036854775000 ∧ n ≤ 4096 ∧ k ≤ 4096
def r_readSR : (List UInt8) × Nat × Nat → AV := fun | (b, n, k) => .tup [enc (readS b n k).1, enc (readS b n k).2.1, .int .i64 (readS b n k).2.2]
noncomputable def p_readSR : List AV → Store → Option (AV × Store) := primG e_readSR (gd k_readSR r_readSR)
theorem i_readSR : Inj e_readSR := by
  rintro ⟨b1, n1, k1⟩ ⟨b2, n2, k2⟩ h
  simpa only [e_readSR, enc_inj, rec_inj, AV.str.injEq, AV.int.injEq, AV.bool.injEq, AV.agg.injEq, AV.ptr.injEq, AV.fn.injEq, List.cons.injEq, and_true, true_and, Prod.mk.injEq, Int.natCast_inj] using h
theorem c_readSR {E : Env} (h : E.prim 19 = some fun _ => p_readSR) (b : List UInt8) (n : Nat) (k : Nat) (hk : b.length ≤ 9223372036854775000 ∧ n ≤ 4096 ∧ k ≤ 4096) {S : Store} {K : AV → Store → Prop} {d : Dm K} : SpD E 19 [enc b, .int .i64 n, .int .i64 k] S K d = K (.tup [enc (readS b n k).1, enc (readS b n k).2.1, .int .i64 (readS b n k).2.2]) S := by
  have := callG h i_readSR (a := (b, n, k)) (S := S) (args := [enc b, .int .i64 n, .int .i64 k]) (K := K) (d := d) (by simp only [e_readSR, rdSL_cons, rdSL_nil, rdS_int, rdS_bool, rdS_str, enc_rdS, rdS_fn0, rdS_csl0, rdS_rec, rdSL_rec, rdS_agg, rdS_tup, Option.bind_some, Option.map_some]) hk
  simpa only [r_readSR, topL_cons, topL_nil, top_int, top_bool, top_str, top_csl, enc_top, top_agg, top_rec, top_fn, List.nil_append, killL_nil] using this
theorem c_readSR' {E : Env} (h : E.prim 19 = some fun _ => p_readSR) {S : Store} {x0 x1 x2 : AV} {b : List UInt8} {n : Nat} {k : Nat} (h0 : rdS S x0 = some (enc b)) (h1 : rdS S x1 = some (.int .i64 n)) (h2 : rdS S x2 = some (.int .i64 k)) (hk : b.length ≤ 9223372036854775000 ∧ n ≤ 4096 ∧ k ≤ 4096) {K : AV → Store → Prop} {d : Dm K} : SpD E 19 [x0, x1, x2] S K d = K (.tup [enc (readS b n k).1, enc (readS b n k).2.1, .int .i64 (readS b n k).2.2]) (killL (topIdsL [x0, x1, x2]) S) :=
  callG h i_readSR (a := (b, n, k)) (by simp only [e_readSR, rdSL, h0, h1, h2, Option.bind_some, Option.map_some]) hk
def e_ints : (List Int) × (List Int) → List AV := fun | (a, b) => [enc a, enc b]
def k_ints : (List Int) × (List Int) → Prop := fun | (a, b) => a.length ≤ 9223372036854775000
def r_ints : (List Int) × (List Int) → AV := fun | (a, b) => .bool (decide (a = b))
noncomputable def p_ints : List AV → Store → Option (AV × Store) := primS e_ints (gd k_ints r_ints)
theorem i_ints : Inj e_ints := by
  rintro ⟨a1, b1⟩ ⟨a2, b2⟩ h
  simpa only [e_ints, enc_inj, rec_inj, AV.str.injEq, AV.int.injEq, AV.bool.injEq, AV.agg.injEq, AV.ptr.injEq, AV.fn.injEq, List.cons.injEq, and_true, true_and, Prod.mk.injEq] using h
theorem c_ints {E : Env} (h : E.prim 17 = some fun _ => p_ints) (a : List Int) (b : List Int) (hk : a.length ≤ 9223372036854775000) {S : Store} {K : AV → Store → Prop} {d : Dm K} : SpD E 17 [enc a, enc b] S K d = K (.bool (decide (a = b))) S :=
  callS h i_ints (a := (a, b)) (by simp only [e_ints, rdSL_cons, rdSL_nil, rdS_int, rdS_bool, rdS_str, enc_rdS, rdS_fn0, rdS_csl0, rdS_rec, rdSL_rec, rdS_agg, rdS_tup, Option.bind_some, Option.map_some]) hk
theorem c_ints' {E : Env} (h : E.prim 17 = some fun _ => p_ints) {S : Store} {x0 x1 : AV} {a : List Int} {b : List Int} (h0 : rdS S x0 = some (enc a)) (h1 : rdS S x1 = some (enc b)) (hk : a.length ≤ 9223372036854775000) {K : AV → Store → Prop} {d : Dm K} : SpD E 17 [x0, x1] S K d = K (.bool (decide (a = b))) S :=
  callS h i_ints (a := (a, b)) (by simp only [e_ints, rdSL, h0, h1, Option.bind_some, Option.map_some]) hk
def e_same35 : (List Bz) × (List Bz) → List AV := fun | (a, b) => [enc a, enc b]
def k_same35 : (List Bz) × (List Bz) → Prop := fun | (a, b) => a.length ≤ 9223372036854775000 ∧ ∀ z, z ∈ a → z.b.length ≤ 9223372036854775000
def r_same35 : (List Bz) × (List Bz) → AV := fun | (a, b) => .bool (decide (a.map (·.b) = b.map (·.b)))
noncomputable def p_same35 : List AV → Store → Option (AV × Store) := primS e_same35 (gd k_same35 r_same35)
theorem i_same35 : Inj e_same35 := by
  rintro ⟨a1, b1⟩ ⟨a2, b2⟩ h
  simpa only [e_same35, enc_inj, rec_inj, AV.str.injEq, AV.int.injEq, AV.bool.injEq, AV.agg.injEq, AV.ptr.injEq, AV.fn.injEq, List.cons.injEq, and_true, true_and, Prod.mk.injEq] using h
theorem c_same35 {E : Env} (h : E.prim 18 = some fun _ => p_same35) (a : List Bz) (b : List Bz) (hk : a.length ≤ 9223372036854775000 ∧ ∀ z, z ∈ a → z.b.length ≤ 9223372036854775000) {S : Store} {K : AV → Store → Prop} {d : Dm K} : SpD E 18 [enc a, enc b] S K d = K (.bool (decide (a.map (·.b) = b.map (·.b)))) S :=
  callS h i_same35 (a := (a, b)) (by simp only [e_same35, rdSL_cons, rdSL_nil, rdS_int, rdS_bool, rdS_str, enc_rdS, rdS_fn0, rdS_csl0, rdS_rec, rdSL_rec, rdS_agg, rdS_tup, Option.bind_some, Option.map_some]) hk
theorem c_same35' {E : Env} (h : E.prim 18 = some fun _ => p_same35) {S : Store} {x0 x1 : AV} {a : List Bz} {b : List Bz} (h0 : rdS S x0 = some (enc a)) (h1 : rdS S x1 = some (enc b)) (hk : a.length ≤ 9223372036854775000 ∧ ∀ z, z ∈ a → z.b.length ≤ 9223372036854775000) {K : AV → Store → Prop} {d : Dm K} : SpD E 18 [x0, x1] S K d = K (.bool (decide (a.map (·.b) = b.map (·.b)))) S :=
  callS h i_same35 (a := (a, b)) (by simp only [e_same35, rdSL, h0, h1, Option.bind_some, Option.map_some]) hk
def e_recordSmall : (List Int) × (List Bz) × (List UInt8) → List AV := fun | (l, m, b) => [enc l, enc m, enc b]
def k_recordSmall : (List Int) × (List Bz) × (List UInt8) → Prop := fun | (l, m, b) => l.length ≤ 9223372036854775807 ∧ m.length ≤ 9223372036854775807 ∧ b.length ≤ 9223372036854775807
def r_recordSmall : (List Int) × (List Bz) × (List UInt8) → AV := fun | (l, m, b) => .bool true
noncomputable def p_recordSmall : List AV → Store → Option (AV × Store) := primS e_recordSmall (gd k_recordSmall r_recordSmall)
theorem i_recordSmall : Inj e_recordSmall := by
  rintro ⟨l1, m1, b1⟩ ⟨l2, m2, b2⟩ h
  simpa only [e_recordSmall, enc_inj, rec_inj, AV.str.injEq, AV.int.injEq, AV.bool.injEq, AV.agg.injEq, AV.ptr.injEq, AV.fn.injEq, List.cons.injEq, and_true, true_and, Prod.mk.injEq] using h
theorem c_recordSmall {E : Env} (h : E.prim 4 = some fun _ => p_recordSmall) (l : List Int) (m : List Bz) (b : List UInt8) (hk : l.length ≤ 9223372036854775807 ∧ m.length ≤ 9223372036854775807 ∧ b.length ≤ 9223372036854775807) {S : Store} {K : AV → Store → Prop} {d : Dm K} : SpD E 4 [enc l, enc m, enc b] S K d = K (.bool true) S :=
  callS h i_recordSmall (a := (l, m, b)) (by simp only [e_recordSmall, rdSL_cons, rdSL_nil, rdS_int, rdS_bool, rdS_str, enc_rdS, rdS_fn0, rdS_csl0, rdS_rec, rdSL_rec, rdS_agg, rdS_tup, Option.bind_some, Option.map_some]) hk
theorem c_recordSmall' {E : Env} (h : E.prim 4 = some fun _ => p_recordSmall) {S : Store} {x0 x1 x2 : AV} {l : List Int} {m : List Bz} {b : List UInt8} (h0 : rdS S x0 = some (enc l)) (h1 : rdS S x1 = some (enc m)) (h2 : rdS S x2 = some (enc b)) (hk : l.length ≤ 9223372036854775807 ∧ m.length ≤ 9223372036854775807 ∧ b.length ≤ 9223372036854775807) {K : AV → Store → Prop} {d : Dm K} : SpD E 4 [x0, x1, x2] S K d = K (.bool true) S :=
  callS h i_recordSmall (a := (l, m, b)) (by simp only [e_recordSmall, rdSL, h0, h1, h2, Option.bind_some, Option.map_some]) hk

theorem enc_n1 (n : Int) : AV.csl [.int .i64 1, .int .i64 n, enc ([] : List UInt8), enc ([] : List Val)] 1 = enc [numV n] := csl_v1 (numV n)
theorem enc_r1 (b : List UInt8) : AV.csl [.int .i64 2, .int .i64 0, enc b, enc ([] : List Val)] 1 = enc [rawV b] := csl_v1 (rawV b)
theorem encodeP_len (v : Val) : (encodeP v).1.length ≤ 1048576 := by
  unfold encodeP
  split
  · rename_i h; exact ((size_iff v).1 h).2.2
  · simp
theorem ok_small {E : Env} (hp : E.prim 13 = none) (hf : E.F 13 = some F13) (h2 : E.prim 40 = some fun _ => p_of02) (h4 : E.prim 41 = some fun _ => p_num02) (h5 : E.prim 42 = some fun _ => p_raw02)
    (h7 : E.prim 43 = some fun _ => p_encode) (h8 : E.prim 8 = some fun _ => p_pad) : OkG E 13 e_small (gd k_small r_small) := by
  refine OkG.code hp hf (fun _ => rfl) fun ⟨l, m⟩ S hk => ?_
  have hk : l.length ≤ 100000 ∧ m.length ≤ 100000 := hk
  have co := fun (T : Store) (K : AV → Store → Prop) (q : Dm K) => c_of02 h2 .nilS rfl (S := T) (K := K) (d := q)
  simp -dsimp only [go_sem, F13, e_small, r_small, co]
  refine Ex.range (n := l.length) (fun i g T => g 1 = enc m ∧ g 6 = .ptr S.length 0 ∧ g 14 = enc l ∧ ∃ (y : AV) (R : Store), T = S ++ (.cells [.int .i64 3, .int .i64 0, enc ([] : List UInt8), y] :: R) ∧
    OwnR (S.length + 1) R y ((l.take i).map numV)) (by decide) (by omega) rfl rfl ⟨rfl, rfl, rfl, .nilS, [], rfl, .inl ⟨rfl, rfl⟩⟩ ?_ ?_
  · rintro i g T hi gi gn ⟨g1, g6, g14, y, R, rfl, hR⟩
    simp -dsimp only [go_sem, gi, gn, g1, g6, g14, ia_enc .i64 hi]
    refine ExF.intro ?_
    simp -dsimp only [go_sem, gi, gn, g1, g6, g14, c_num02 h4, valL, enc_n1]
    have hO : OwnL (S ++ [.cells [.int .i64 3, .int .i64 0, enc ([] : List UInt8), y]]) _ y _ := OwnR.own (R := R) (by simpa using hR)
    simp only [List.append_assoc, List.cons_append, List.nil_append] at hO
    refine OwnL.app hO rfl (el_enc _ rfl) ?_ fun y' T' hO' hK hi' => ?_
    · simp only [List.length_singleton, List.length_map, List.length_take]; omega
    obtain ⟨R', rfl⟩ := hO'.1
    have hR' := hO'.ownR
    have yc := hO'.cells1
    simp only [List.append_assoc, List.cons_append, List.nil_append]
    simp -dsimp only [go_sem, gi, gn, g1, g6, g14, yc]
    refine ⟨⟨y', R', rfl, ?_⟩, ?_⟩
    · rw [List.take_succ_eq_append_getElem hi, List.map_append]; simpa using hR'
    · (repeat' (first | exact fl_ld rfl rfl rfl rfl (flLd_n _ _ _ _ _ _ (by simp -dsimp only [go_sem, g1, g6, g14])) | exact fl_b2s rfl rfl rfl rfl (by simp -dsimp only [go_sem, g1, g6, g14]) | apply And.intro))
  · rintro g T gi ⟨g1, g6, g14, y, R, rfl, hR⟩
    rw [List.take_length] at hR
    simp -dsimp only [go_sem, gi, g1, g6, g14]
    refine Ex.range (n := m.length) (fun i g T => g 6 = .ptr S.length 0 ∧ g 28 = enc m ∧ ∃ (y : AV) (R : Store), T = S ++ (.cells [.int .i64 3, .int .i64 0, enc ([] : List UInt8), y] :: R) ∧
      OwnR (S.length + 1) R y (l.map numV ++ (m.take i).map fun z => rawV z.b)) (by decide) (by omega) rfl rfl ⟨by simp -dsimp only [go_sem, g6], rfl, y, R, rfl, by simpa using hR⟩ ?_ ?_
    · rintro i g T hi gi gn ⟨g6, g28, y, R, rfl, hR⟩
      simp -dsimp only [go_sem, gi, gn, g6, g28, ia_enc .i64 hi]
      refine ExF.intro ?_
      simp -dsimp only [go_sem, gi, gn, g6, g28, c_raw02 h5, valL, enc_r1]
      have hO : OwnL (S ++ [.cells [.int .i64 3, .int .i64 0, enc ([] : List UInt8), y]]) _ y _ := OwnR.own (R := R) (by simpa using hR)
      simp only [List.append_assoc, List.cons_append, List.nil_append] at hO
      refine OwnL.app hO rfl (el_enc _ rfl) ?_ fun y' T' hO' hK hi' => ?_
      · simp only [List.length_singleton, List.length_append, List.length_map, List.length_take]; omega
      obtain ⟨R', rfl⟩ := hO'.1
      have hR' := hO'.ownR
      have yc := hO'.cells1
      simp only [List.append_assoc, List.cons_append, List.nil_append]
      simp -dsimp only [go_sem, gi, gn, g6, g28, yc]
      refine ⟨⟨y', R', rfl, ?_⟩, ?_⟩
      · rw [List.take_succ_eq_append_getElem hi, List.map_append]; simpa using hR'
      · (repeat' (first | exact fl_ld rfl rfl rfl rfl (flLd_n _ _ _ _ _ _ (by simp -dsimp only [go_sem, g6, g28])) | exact fl_b2s rfl rfl rfl rfl (by simp -dsimp only [go_sem, g6, g28]) | apply And.intro))
    · rintro g T gi ⟨g6, g28, y, R, rfl, hR⟩
      rw [List.take_length] at hR
      have hO : OwnL (S ++ [.cells [.int .i64 3, .int .i64 0, enc ([] : List UInt8), y]]) _ y _ := OwnR.own (R := R) (by simpa using hR)
      simp only [List.append_assoc, List.cons_append, List.nil_append] at hO
      have hrd := hO.rd
      have hval : rdS (S ++ AObj.cells [AV.int IntKind.i64 3, AV.int IntKind.i64 0, enc ([] : List UInt8), y] :: R) (.agg [.int .i64 3, .int .i64 0, enc ([] : List UInt8), y]) = some (.agg (valL (recV l m))) := by
        simp only [rdS, rdSL, rd0, enc_rdS, hrd, Option.bind_some, Option.map_some]; rfl
      have ce := fun (K : AV → Store → Prop) (q : Dm K) => c_encode' h7 hval (K := K) (d := q)
      have hpk : S <+: killL (topIdsL [AV.agg [AV.int IntKind.i64 3, AV.int IntKind.i64 0, enc ([] : List UInt8), y]]) (S ++ AObj.cells [AV.int IntKind.i64 3, AV.int IntKind.i64 0, enc ([] : List UInt8), y] :: R) := prefix_kill (List.prefix_append _ _) _ fun i hi => by
        simp only [topIdsL, topIds, enc_top, List.nil_append, List.append_nil] at hi
        have := hO.ids i hi
        simp at this; omega
      have hel := encodeP_len (recV l m)
      cases y2 : decide ((encodeP (recV l m)).2 = 0)
      · have e : smallP l m = ([], (encodeP (recV l m)).2) := if_neg (of_decide_eq_false y2)
        simp -dsimp only [go_sem, gi, g6, g28, ce, y2, F13, r_small, e]
        exact conv_pair hpk (fun i h => by simp [topIds] at h) rfl
      · have e : smallP l m = padP (encodeP (recV l m)).1 120 := if_pos (of_decide_eq_true y2)
        simp -dsimp only [go_sem, gi, g6, g28, ce, y2, c_pad h8 (encodeP (recV l m)).1 120 (by omega), F13, r_small, e]
        exact conv_pair hpk (fun i h => by simp [enc_top] at h) (enc_rdS _ _)
end Go.Proofs.YtaajlbbooneiiaaDoor.Avm
set_option linter.unusedVariables false
set_option linter.unusedSimpArgs false
set_option maxRecDepth 10000
namespace Go.Proofs.YtaajlbbooneiiaaDoor.Avm

theorem numsOk_all : ∀ l : List Int, numsOk l = true ↔ ∀ n, n ∈ l → 0 ≤ n ∧ n ≤ 4611686018427387904
  | [] => by simp [numsOk]
  | n :: l => by simp [numsOk, numsOk_all l]
theorem ok_numbersR {E : Env} (hp : E.prim 14 = none) (hf : E.F 14 = some F14) : OkS E 14 e_numbersR (gd k_numbersR r_numbersR) := by
  refine OkS.code hp hf (fun _ => rfl) fun l hk => ?_
  have hk : l.length ≤ 9223372036854775000 := hk
  simp -dsimp only [go_sem, F14, e_numbersR]
  refine Ex.count (n := l.length) (i0 := 0) (fun i g T => g 0 = enc l ∧ ∀ n, n ∈ l.take i → 0 ≤ n ∧ n ≤ 4611686018427387904) (by decide) (by omega) rfl (by omega) ⟨rfl, by simp⟩ ?_ ?_ ?_
  · rintro i g T hi gi ⟨g0, hI⟩
    simp -dsimp only [go_sem, gi, g0]
  · rintro i g T hi gi ⟨g0, hI⟩
    have bad : ¬ (0 ≤ l[i] ∧ l[i] ≤ 4611686018427387904) → numsOk l = false := fun h => by
      rw [Bool.eq_false_iff]; intro q; exact h ((numsOk_all l).1 q _ (List.getElem_mem hi))
    cases y1 : decide (l[i] < 0)
    · cases y2 : decide ((4611686018427387904 : Int) < l[i])
      · simp -dsimp only [go_sem, gi, g0, ia_enc .i64 hi, y1, y2]
        intro n hn
        rw [List.take_succ_eq_append_getElem hi, List.mem_append, List.mem_singleton] at hn
        rcases hn with hn | rfl
        · exact hI n hn
        · have := of_decide_eq_false y1; have := of_decide_eq_false y2; omega
      · have e := bad (by have := of_decide_eq_true y2; omega)
        simp -dsimp only [go_sem, gi, g0, ia_enc .i64 hi, y1, y2, F14, r_numbersR, e]
    · have e := bad (by have := of_decide_eq_true y1; omega)
      simp -dsimp only [go_sem, gi, g0, ia_enc .i64 hi, y1, F14, r_numbersR, e]
  · rintro g T gi ⟨g0, hI⟩
    rw [List.take_length] at hI
    have e := (numsOk_all l).2 hI
    simp -dsimp only [go_sem, gi, g0, F14, r_numbersR, e]
theorem ok_recordR {E : Env} (hp : E.prim 15 = none) (hf : E.F 15 = some F15) (h2 : E.prim 47 = some fun _ => p_ofR28) (h4 : E.prim 44 = some fun _ => p_numR28) (h5 : E.prim 45 = some fun _ => p_rawR28)
    (h7 : E.prim 46 = some fun _ => p_bytesR 17) : OkG E 15 e_recordR (gd k_recordR r_recordR) := by
  refine OkG.code hp hf (fun _ => rfl) fun ⟨l, m⟩ S hk => ?_
  have hk : rightV (recV l m) := hk
  have hlen := (pure_llen hk.1).1
  rw [show (recV l m).list = l.map numV ++ m.map (fun z => rawV z.b) from rfl, List.length_append, List.length_map, List.length_map] at hlen
  simp -dsimp only [go_sem, F15, e_recordR]
  refine Ex.count (n := l.length) (i0 := 0) (fun i g T => g 0 = enc l ∧ g 1 = enc m ∧ OwnL S T (g 5) ((l.take i).map numV)) (by decide) (by omega) rfl (by omega) ⟨rfl, rfl, OwnL.nil List.prefix_rfl⟩ ?_ ?_ ?_
  · rintro i g T hi gi ⟨g0, g1, hO⟩
    simp -dsimp only [go_sem, gi, g0]
  · rintro i g T hi gi ⟨g0, g1, hO⟩
    simp -dsimp only [go_sem, gi, g0, g1, ia_enc .i64 hi, c_numR28 h4, valL, enc_n1]
    refine OwnL.app hO rfl (el_enc _ rfl) ?_ fun y' T' hO' hK hi' => ?_
    · simp only [List.length_singleton, List.length_map, List.length_take]; omega
    simp -dsimp only [go_sem, gi, g0, g1]
    rw [List.take_succ_eq_append_getElem hi, List.map_append]; exact hO'
  · rintro g T gi ⟨g0, g1, hO⟩
    rw [List.take_length] at hO
    simp -dsimp only [go_sem, gi, g0, g1]
    refine Ex.count (n := m.length) (i0 := 0) (fun i g T => g 1 = enc m ∧ OwnL S T (g 5) (l.map numV ++ (m.take i).map fun z => rawV z.b)) (by decide) (by omega) rfl (by omega) ⟨by simp -dsimp only [go_sem, g1], by simp -dsimp only [go_sem]; simpa using hO⟩ ?_ ?_ ?_
    · rintro i g T hi gi ⟨g1, hO⟩
      simp -dsimp only [go_sem, gi, g1]
    · rintro i g T hi gi ⟨g1, hO⟩
      simp -dsimp only [go_sem, gi, g1, ia_enc .i64 hi, c_rawR28 h5, valL, enc_r1]
      refine OwnL.app hO rfl (el_enc _ rfl) ?_ fun y' T' hO' hK hi' => ?_
      · simp only [List.length_singleton, List.length_append, List.length_map, List.length_take]; omega
      simp -dsimp only [go_sem, gi, g1]
      rw [List.take_succ_eq_append_getElem hi, List.map_append, ← List.append_assoc]; exact hO'
    · rintro g T gi ⟨g1, hO⟩
      rw [List.take_length] at hO
      obtain ⟨y, hy⟩ : ∃ y, g 5 = y := ⟨_, rfl⟩
      rw [hy] at hO
      have co3 := fun (K : AV → Store → Prop) (q : Dm K) => c_ofR28' h2 hO.rd (K := K) (d := q)
      have cb : ∀ (T : Store) (K : AV → Store → Prop) (q : Dm K), SpD E 46 [.agg [.int .i64 3, .int .i64 0, enc ([] : List UInt8), enc (l.map numV ++ m.map fun z => rawV z.b)]] T K q = K (enc (bytesA (recV l m))) T := fun T K q => c_bytesR h7 (recV l m) ⟨hk.1, by have := hk.2.1; omega, by have := hk.2.2; omega⟩
      simp -dsimp only [go_sem, gi, g1, hy, co3, valL, cb, F15, r_recordR]
      exact Conv.good (prefix_kill hO.1 _ fun i h => by
        simp only [topIdsL, List.append_nil] at h; exact hO.ids _ h) (fun i h => by simp [enc_top] at h) (enc_rdS _ _)
theorem ok_ints {E : Env} (hp : E.prim 17 = none) (hf : E.F 17 = some F17) : OkS E 17 e_ints (gd k_ints r_ints) := by
  refine OkS.code hp hf (fun _ => rfl) fun ⟨a, b⟩ hk => ?_
  have hk : a.length ≤ 9223372036854775000 := hk
  cases y1 : decide ((a.length : Int) = (b.length : Int))
  · have e : decide (a = b) = false := decide_eq_false fun h => of_decide_eq_false y1 (by rw [h])
    simp -dsimp only [go_sem, F17, e_ints, r_ints, y1, e]
  have hl : a.length = b.length := by have := of_decide_eq_true y1; omega
  simp -dsimp only [go_sem, F17, e_ints, y1]
  refine Ex.count (n := a.length) (i0 := 0) (fun i g T => g 0 = enc a ∧ g 1 = enc b ∧ a.take i = b.take i) (by decide) (by omega) rfl (by omega) ⟨rfl, rfl, rfl⟩ ?_ ?_ ?_
  · rintro i g T hi gi ⟨g0, g1, hI⟩
    simp -dsimp only [go_sem, gi, g0]
  · rintro i g T hi gi ⟨g0, g1, hI⟩
    have hib : i < b.length := by omega
    cases y2 : decide (a[i] = b[i])
    · have e : decide (a = b) = false := decide_eq_false fun h => of_decide_eq_false y2 (by subst h; rfl)
      simp -dsimp only [go_sem, gi, g0, g1, ia_enc .i64 hi, ia_enc .i64 hib, y2, F17, r_ints, e]
    · have hn : a.take (i + 1) = b.take (i + 1) := by rw [List.take_succ_eq_append_getElem hi, List.take_succ_eq_append_getElem hib, hI, of_decide_eq_true y2]
      simp -dsimp only [go_sem, gi, g0, g1, ia_enc .i64 hi, ia_enc .i64 hib, y2, hn]
  · rintro g T gi ⟨g0, g1, hI⟩
    rw [List.take_length, hl, List.take_length] at hI
    have e : decide (a = b) = true := decide_eq_true hI
    simp -dsimp only [go_sem, gi, g0, g1, F17, r_ints, e]
theorem ok_same35 {E : Env} (hp : E.prim 18 = none) (hf : E.F 18 = some F18) (h1 : E.prim 10 = some fun _ => p_bsame) : OkS E 18 e_same35 (gd k_same35 r_same35) := by
  refine OkS.code hp hf (fun _ => rfl) fun ⟨a, b⟩ hk => ?_
  have hk : a.length ≤ 9223372036854775000 ∧ ∀ z, z ∈ a → z.b.length ≤ 9223372036854775000 := hk
  cases y1 : decide ((a.length : Int) = (b.length : Int))
  · have e : decide (a.map (·.b) = b.map (·.b)) = false := decide_eq_false fun h => of_decide_eq_false y1 (by have := congrArg List.length h; simp at this; rw [this])
    simp -dsimp only [go_sem, F18, e_same35, r_same35, y1, e]
  have hl : a.length = b.length := by have := of_decide_eq_true y1; omega
  simp -dsimp only [go_sem, F18, e_same35, y1]
  refine Ex.range (n := a.length) (fun i g T => g 0 = enc a ∧ g 1 = enc b ∧ (a.take i).map (·.b) = (b.take i).map (·.b)) (by decide) (by omega) rfl rfl ⟨rfl, rfl, rfl⟩ ?_ ?_
  · rintro i g T hi gi gn ⟨g0, g1, hI⟩
    have hib : i < b.length := by omega
    have cs := fun (T : Store) (K : AV → Store → Prop) (q : Dm K) => c_bsame h1 a[i].b b[i].b (by have := hk.2 _ (List.getElem_mem hi); omega) (S := T) (K := K) (d := q)
    cases y2 : decide (a[i].b = b[i].b)
    · have e : decide (a.map (·.b) = b.map (·.b)) = false := decide_eq_false fun h => of_decide_eq_false y2 (by
        have := congrArg (fun l : List (List UInt8) => l[i]?) h
        simpa only [List.getElem?_map, List.getElem?_eq_getElem hi, List.getElem?_eq_getElem hib, Option.map_some, Option.some.injEq] using this)
      simp -dsimp only [go_sem, gi, gn, g0, g1, ia_enc .i64 hi, ia_enc .i64 hib, cs, y2, F18, r_same35, e]
    · have hn : (a.take (i + 1)).map (·.b) = (b.take (i + 1)).map (·.b) := by rw [List.take_succ_eq_append_getElem hi, List.take_succ_eq_append_getElem hib, List.map_append, List.map_append, hI, List.map_singleton, List.map_singleton, of_decide_eq_true y2]
      simp -dsimp only [go_sem, gi, gn, g0, g1, ia_enc .i64 hi, ia_enc .i64 hib, cs, y2]
      exact hn
  · rintro g T gi ⟨g0, g1, hI⟩
    rw [List.take_length, hl, List.take_length] at hI
    have e : decide (a.map (·.b) = b.map (·.b)) = true := decide_eq_true hI
    simp -dsimp only [go_sem, gi, g0, g1, F18, r_same35, e]
end Go.Proofs.YtaajlbbooneiiaaDoor.Avm
set_option linter.unusedVariables false
set_option linter.unusedSimpArgs false
set_option maxRecDepth 10000
namespace Go.Proofs.YtaajlbbooneiiaaDoor.Avm

theorem okS_snoc (n : Nat) (a : List Val) (x : Val) : okS n (a ++ [x]) = (okS n a && if a.length < n then decide (x.kind = 1) else decide (x.kind = 2)) := by
  unfold okS
  rw [List.take_append, List.drop_append]
  by_cases h : a.length < n
  · rw [if_pos h, List.take_of_length_le (l := [x]) (by simp; omega), List.drop_of_length_le (l := [x]) (by simp; omega), List.all_append, List.append_nil]
    simp only [List.all_cons, List.all_nil, Bool.and_true]
    rw [Bool.and_assoc, Bool.and_assoc, Bool.and_comm (decide (x.kind = 1))]
  · rw [if_neg h, show n - a.length = 0 by omega, List.take_zero, List.drop_zero, List.append_nil, List.all_append]
    simp only [List.all_cons, List.all_nil, Bool.and_true, Bool.and_assoc]
theorem okS_pre (n : Nat) (a b : List Val) (h : okS n a = false) : okS n (a ++ b) = false := by
  rw [Bool.eq_false_iff] at h ⊢
  intro q; apply h
  unfold okS at q ⊢
  rw [List.take_append, List.drop_append, List.all_append, List.all_append] at q
  simp only [Bool.and_eq_true] at q ⊢
  exact ⟨q.1.1, q.2.1⟩
theorem numsS_snoc (n : Nat) (a : List Val) (x : Val) : numsS n (a ++ [x]) = numsS n a ++ if a.length < n then [x.num] else [] := by
  unfold numsS
  rw [List.take_append, List.map_append]
  by_cases h : a.length < n
  · rw [if_pos h, List.take_of_length_le (l := [x]) (by simp; omega)]; rfl
  · rw [if_neg h, show n - a.length = 0 by omega, List.take_zero]; rfl
theorem bytsS_snoc (n : Nat) (a : List Val) (x : Val) : bytsS n (a ++ [x]) = bytsS n a ++ if a.length < n then [] else [⟨x.bytes⟩] := by
  unfold bytsS
  rw [List.drop_append, List.map_append]
  by_cases h : a.length < n
  · rw [if_pos h, List.drop_of_length_le (l := [x]) (by simp; omega)]; rfl
  · rw [if_neg h, show n - a.length = 0 by omega, List.drop_zero]; rfl
theorem okS_at {n i : Nat} {l : List Val} (hi : i < l.length) (h : okS n (l.take i) = true) (hx : (if i < n then decide (l[i].kind = 1) else decide (l[i].kind = 2)) = true) : okS n (l.take (i + 1)) = true := by
  rw [List.take_succ_eq_append_getElem hi, okS_snoc, h, List.length_take, Nat.min_eq_left (by omega), hx]; rfl
theorem okS_bad {n i : Nat} {l : List Val} (hi : i < l.length) (hx : (if i < n then decide (l[i].kind = 1) else decide (l[i].kind = 2)) = false) : okS n l = false := by
  have e : l = l.take (i + 1) ++ l.drop (i + 1) := (List.take_append_drop _ _).symm
  rw [e]
  apply okS_pre
  rw [List.take_succ_eq_append_getElem hi, okS_snoc, List.length_take, Nat.min_eq_left (by omega), hx, Bool.and_false]
theorem conv3 {α β : Type} [Rec α] [Rec β] {S T : Store} {x y : AV} {a : List α} {b : List β} {c : Int} (hp : S <+: T) (hx : ∀ i, i ∈ topIds x → S.length ≤ i) (hy : ∀ i, i ∈ topIds y → S.length ≤ i) (h1 : rdS T x = some (enc a)) (h2 : rdS T y = some (enc b)) :
    Conv S T (.tup [x, y, .int .i64 c]) S (.tup [enc a, enc b, .int .i64 c]) :=
  Conv.good hp (fun i h => by
    simp only [topIds, topIdsL, List.append_nil, List.mem_append] at h
    exact h.elim (hx i) (hy i)) (by simp only [rdS, rdSL, rd0, h1, h2, Option.bind_some, Option.map_some])
theorem enc_b1 (b : List UInt8) : AV.csl [enc b] 1 = enc [Bz.mk b] := rfl
theorem enc_i1 (n : Int) : AV.csl [.int .i64 n] 1 = enc [n] := rfl

/-- the two rows so far -/
def Rows2 (S T : Store) (x y : AV) (n : Nat) (l : List Val) : Prop := OwnL S T x (numsS n l) ∧ OwnL S T y (bytsS n l) ∧ (∀ i, i ∈ topIds x → i ∉ topIds y) ∧ okS n l = true
theorem Rows2.start {S T : Store} (h : S <+: T) (n : Nat) (l : List Val) : Rows2 S T .nilS .nilS n (l.take 0) := by
  have e1 : numsS n (l.take 0) = [] := by simp [numsS]
  have e2 : bytsS n (l.take 0) = [] := by simp [bytsS]
  exact ⟨by rw [e1]; exact OwnL.nil h, by rw [e2]; exact OwnL.nil h, fun i h => by simp [topIds] at h, by simp [okS]⟩
theorem Rows2.more {S T : Store} {x y : AV} {n : Nat} {l : List Val} (h : Rows2 S T x y n l) (L : List AObj) : Rows2 S (T ++ L) x y n l := ⟨h.1.more L, h.2.1.more L, h.2.2⟩
theorem Rows2.num {S T : Store} {x y : AV} {n i : Nat} {l : List Val} (h : Rows2 S T x y n (l.take i)) (hi : i < l.length) (hl : l.length ≤ 100000) (hn : i < n) (hx : decide (l[i].kind = 1) = true)
    {K : AV → Store → Prop} {d : Dm K} (k : ∀ x' T', Rows2 S T' x' y n (l.take (i + 1)) → K x' T') : thn (appA T 1 8 x (enc [l[i].num])) K d := by
  obtain ⟨hO1, hO2, hd, hk⟩ := h
  refine OwnL.app hO1 rfl (el_enc _ rfl) ?_ fun x' T' hO hK hid => k _ _ ⟨?_, ?_, ?_, okS_at hi hk (by rw [if_pos hn]; exact hx)⟩
  · simp only [numsS, List.length_map, List.length_take, List.length_singleton]; omega
  · rw [List.take_succ_eq_append_getElem hi, numsS_snoc, List.length_take, Nat.min_eq_left (by omega), if_pos hn]; exact hO
  · have := hO2.keep hO.1 hK (fun i hi hj => hd i hj hi)
    rw [List.take_succ_eq_append_getElem hi, bytsS_snoc, List.length_take, Nat.min_eq_left (by omega), if_pos hn, List.append_nil]; exact this
  · intro i hi hj
    rcases hid i hi with h | h
    · exact hd i h hj
    · have := hO2.lt i hj; omega
theorem Rows2.byt {S T : Store} {x y : AV} {n i : Nat} {l : List Val} (h : Rows2 S T x y n (l.take i)) (hi : i < l.length) (hl : l.length ≤ 100000) (hn : ¬ i < n) (hx : decide (l[i].kind = 2) = true)
    {K : AV → Store → Prop} {d : Dm K} (k : ∀ y' T', Rows2 S T' x y' n (l.take (i + 1)) → K y' T') : thn (appA T 1 24 y (enc [Bz.mk l[i].bytes])) K d := by
  obtain ⟨hO1, hO2, hd, hk⟩ := h
  refine OwnL.app hO2 rfl (el_enc _ rfl) ?_ fun y' T' hO hK hid => k _ _ ⟨?_, ?_, ?_, okS_at hi hk (by rw [if_neg hn]; exact hx)⟩
  · simp only [bytsS, List.length_map, List.length_take, List.length_drop, List.length_singleton]; omega
  · have := hO1.keep hO.1 hK hd
    rw [List.take_succ_eq_append_getElem hi, numsS_snoc, List.length_take, Nat.min_eq_left (by omega), if_neg hn, List.append_nil]; exact this
  · rw [List.take_succ_eq_append_getElem hi, bytsS_snoc, List.length_take, Nat.min_eq_left (by omega), if_neg hn]; exact hO
  · intro i hi hj
    rcases hid i hj with h | h
    · exact hd i hi h
    · have := hO1.lt i hi; omega
theorem ok_readS {E : Env} (hp : E.prim 16 = none) (hf : E.F 16 = some F16) (h1 : E.prim 11 = some fun _ => p_unpad) (h2 : E.prim 48 = some fun _ => p_decode) : OkG E 16 e_readS (gd k_readS r_readS) := by
  refine OkG.code hp hf (fun _ => rfl) fun ⟨b, n, k⟩ S hk => ?_
  have hk : b.length ≤ 9223372036854775000 ∧ n ≤ 4096 ∧ k ≤ 4096 := hk
  have pr : ∀ L : List AObj, S <+: S ++ L := fun L => List.prefix_append _ _
  have fe : ∀ T : Store, S <+: T → Conv S T (.tup [.nilS, .nilS, .int .i64 11]) S (.tup [enc ([] : List Int), enc ([] : List Bz), .int .i64 11]) := fun T hp =>
    conv3 hp (fun i h => by simp [topIds] at h) (fun i h => by simp [topIds] at h) rfl rfl
  have hcu : ∀ (T : Store) (K : AV → Store → Prop) (q : Dm K), SpD E 11 [enc b] T K q = K (.tup [enc (unpadP b).1, .int .i64 (unpadP b).2]) T := fun T K q => c_unpad h1 b hk.1
  cases y1 : decide ((unpadP b).2 = 0)
  · have e : readS b n k = ([], [], 11) := if_neg fun h => of_decide_eq_false y1 h.1
    simp -dsimp only [go_sem, F16, e_readS, r_readS, hcu, y1, e]
    exact fe _ List.prefix_rfl
  cases y2 : decide ((b.length : Int) = 120)
  · have e : readS b n k = ([], [], 11) := if_neg fun h => of_decide_eq_false y2 (by omega)
    simp -dsimp only [go_sem, F16, e_readS, r_readS, hcu, y1, y2, e]
    exact fe _ List.prefix_rfl
  obtain ⟨d, hd⟩ : ∃ d, decodeP (unpadP b).1 = d := ⟨_, rfl⟩
  have hr : readS b n k = readSD n k d := by rw [readS, if_pos ⟨of_decide_eq_true y1, by have := of_decide_eq_true y2; omega⟩, hd]
  have bad : ¬ (d.2 = 0 ∧ d.1.kind = 3 ∧ d.1.list.length = n + k ∧ okS n d.1.list = true) → readS b n k = ([], [], 11) := fun h => by rw [hr, readSD, if_neg h]
  cases y3 : decide (d.2 = 0)
  · have e := bad fun h => of_decide_eq_false y3 h.1
    simp -dsimp only [go_sem, F16, e_readS, r_readS, hcu, y1, y2, c_decode h2, hd, y3, e]
    exact fe _ (pr _)
  obtain ⟨v, e0⟩ := d
  have y3' : e0 = 0 := of_decide_eq_true y3
  subst y3'
  obtain ⟨⟨hpu, hde, hby⟩, hbv⟩ := decode_inv hd
  have hvl := (pure_llen hpu).1
  cases y4 : decide (v.kind = 3)
  · have e := bad fun h => of_decide_eq_false y4 h.2.1
    simp -dsimp only [go_sem, F16, e_readS, r_readS, hcu, y1, y2, c_decode h2, hd, y3, y4, e]
    exact fe _ (pr _)
  have yn : decide ((n : Int) < 0) = false := decide_eq_false (by omega)
  cases y5 : decide ((v.list.length : Int) < (n : Int))
  rotate_left
  · have e := bad fun h => by have := of_decide_eq_true y5; have := h.2.2.1; simp only at this; omega
    simp -dsimp only [go_sem, F16, e_readS, r_readS, hcu, y1, y2, c_decode h2, hd, y3, y4, yn, y5, e]
    exact fe _ (pr _)
  have y5' := of_decide_eq_false y5
  have w1 : IntKind.i64.wrap ((v.list.length : Int) - (n : Int)) = (v.list.length : Int) - (n : Int) := wrap64 (by omega) (by omega)
  cases y6 : decide ((v.list.length : Int) - (n : Int) = (k : Int))
  · have e := bad fun h => of_decide_eq_false y6 (by have := h.2.2.1; simp only at this; omega)
    simp -dsimp only [go_sem, F16, e_readS, r_readS, hcu, y1, y2, c_decode h2, hd, y3, y4, yn, y5, w1, y6, e]
    exact fe _ (pr _)
  have hnk : v.list.length = n + k := by have := of_decide_eq_true y6; omega
  simp -dsimp only [go_sem, F16, e_readS, r_readS, hcu, y1, y2, c_decode h2, hd, y3, y4, yn, y5, w1, y6]
  refine Ex.range (n := v.list.length) (fun i g T => g 1 = .int .i64 n ∧ g 61 = enc v.list ∧ Rows2 (S ++ [.cells (valL v)]) T (g 12) (g 13) n (v.list.take i)) (by decide) (by omega) rfl rfl
    ⟨rfl, rfl, Rows2.start List.prefix_rfl n _⟩ ?_ ?_
  · rintro i g T hi gi gn ⟨g1, g61, hR⟩
    have prT : S <+: T := (List.prefix_append _ _).trans hR.1.1
    have hM := hR.more [.cells (valL v.list[i])]
    cases z1 : decide ((i : Int) < (n : Int))
    · have z1' : ¬ i < n := by have := of_decide_eq_false z1; omega
      have z2 : decide ((n : Int) ≤ (i : Int)) = true := decide_eq_true (by omega)
      cases z3 : decide (v.list[i].kind = 2)
      · have e := bad fun h => by have := okS_bad hi (n := n) (by rw [if_neg z1']; exact z3); simp only at h; rw [this] at h; cases h.2.2.2
        simp -dsimp only [go_sem, gi, gn, g1, g61, ia_enc .i64 hi, ld_enc, z1, z2, z3, F16, r_readS, e]
        exact fe _ (prefix_app prT _)
      · simp -dsimp only [go_sem, gi, gn, g1, g61, ia_enc .i64 hi, ld_enc, z1, z2, z3, enc_b1]
        refine hM.byt hi (by omega) z1' z3 fun y' T' hR' => ?_
        simp -dsimp only [go_sem, gi, gn, g1, g61]
        exact hR'
    · have z1' : i < n := by have := of_decide_eq_true z1; omega
      cases z3 : decide (v.list[i].kind = 1)
      · have z2 : decide ((n : Int) ≤ (i : Int)) = false := decide_eq_false (by omega)
        have e := bad fun h => by have := okS_bad hi (n := n) (by rw [if_pos z1']; exact z3); simp only at h; rw [this] at h; cases h.2.2.2
        simp -dsimp only [go_sem, gi, gn, g1, g61, ia_enc .i64 hi, ld_enc, z1, z2, z3, F16, r_readS, e]
        exact fe _ (prefix_app prT _)
      · simp -dsimp only [go_sem, gi, gn, g1, g61, ia_enc .i64 hi, ld_enc, z1, z3, enc_i1]
        refine hM.num hi (by omega) z1' z3 fun x' T' hR' => ?_
        simp -dsimp only [go_sem, gi, gn, g1, g61]
        exact hR'
  · rintro g T gi ⟨g1, g61, hR⟩
    rw [List.take_length] at hR
    have e : readS b n k = (numsS n v.list, bytsS n v.list, 0) := by rw [hr, readSD, if_pos ⟨rfl, of_decide_eq_true y4, hnk, hR.2.2.2⟩]
    obtain ⟨hO1, hO2, _, _⟩ := hR
    simp -dsimp only [go_sem, gi, g1, g61, F16, r_readS, e]
    exact conv3 ((List.prefix_append _ _).trans hO1.1) (fun i hi => by have := hO1.ids i hi; simp at this; omega) (fun i hi => by have := hO2.ids i hi; simp at this; omega) hO1.rd hO2.rd
end Go.Proofs.YtaajlbbooneiiaaDoor.Avm
set_option linter.unusedVariables false
set_option linter.unusedSimpArgs false
set_option maxRecDepth 10000
namespace Go.Proofs.YtaajlbbooneiiaaDoor.Avm

theorem ok_readSR {E : Env} (hp : E.prim 19 = none) (hf : E.F 19 = some F19) (h1 : E.prim 12 = some fun _ => p_unpadR) (h2 : E.prim 49 = some fun _ => p_decodeR) : OkG E 19 e_readSR (gd k_readSR r_readSR) := by
  refine OkG.code hp hf (fun _ => rfl) fun ⟨b, n, k⟩ S hk => ?_
  have hk : b.length ≤ 9223372036854775000 ∧ n ≤ 4096 ∧ k ≤ 4096 := hk
  have pr : ∀ L : List AObj, S <+: S ++ L := fun L => List.prefix_append _ _
  have fe : ∀ T : Store, S <+: T → Conv S T (.tup [.nilS, .nilS, .int .i64 11]) S (.tup [enc ([] : List Int), enc ([] : List Bz), .int .i64 11]) := fun T hp =>
    conv3 hp (fun i h => by simp [topIds] at h) (fun i h => by simp [topIds] at h) rfl rfl
  have hcu : ∀ (T : Store) (K : AV → Store → Prop) (q : Dm K), SpD E 12 [enc b] T K q = K (.tup [enc (unpadP b).1, .int .i64 (unpadP b).2]) T := fun T K q => c_unpadR h1 b hk.1
  have hul := unpadP_len b
  cases y1 : decide ((unpadP b).2 = 0)
  · have e : readS b n k = ([], [], 11) := if_neg fun h => of_decide_eq_false y1 h.1
    simp -dsimp only [go_sem, F19, e_readSR, r_readSR, hcu, y1, e]
    exact fe _ List.prefix_rfl
  cases y2 : decide ((b.length : Int) = 120)
  · have e : readS b n k = ([], [], 11) := if_neg fun h => of_decide_eq_false y2 (by omega)
    simp -dsimp only [go_sem, F19, e_readSR, r_readSR, hcu, y1, y2, e]
    exact fe _ List.prefix_rfl
  have hb : b.length = 120 := by have := of_decide_eq_true y2; omega
  obtain ⟨d, hd⟩ : ∃ d, decodeP (unpadP b).1 = d := ⟨_, rfl⟩
  have hr : readS b n k = readSD n k d := by rw [readS, if_pos ⟨of_decide_eq_true y1, hb⟩, hd]
  have bad : ¬ (d.2 = 0 ∧ d.1.kind = 3 ∧ d.1.list.length = n + k ∧ okS n d.1.list = true) → readS b n k = ([], [], 11) := fun h => by rw [hr, readSD, if_neg h]
  have cd := fun (T : Store) (K : AV → Store → Prop) (q : Dm K) => c_decodeR h2 (unpadP b).1 (S := T) (K := K) (d := q)
  rw [hd] at cd
  cases y3 : decide (d.2 = 0)
  · have e := bad fun h => of_decide_eq_false y3 h.1
    simp -dsimp only [go_sem, F19, e_readSR, r_readSR, hcu, y1, y2, cd, y3, e]
    exact fe _ (pr _)
  obtain ⟨v, e0⟩ := d
  have y3' : e0 = 0 := of_decide_eq_true y3
  subst y3'
  obtain ⟨⟨hpu, hde, hby⟩, hbv⟩ := decode_inv hd
  have hvl := (pure_llen hpu).1
  cases y4 : decide (v.kind = 3)
  · have e := bad fun h => of_decide_eq_false y4 h.2.1
    simp -dsimp only [go_sem, F19, e_readSR, r_readSR, hcu, y1, y2, cd, y3, y4, e]
    exact fe _ (pr _)
  have yn : decide ((n : Int) < 0) = false := decide_eq_false (by omega)
  have yk : decide ((k : Int) < 0) = false := decide_eq_false (by omega)
  have yn2 : decide ((4096 : Int) < (n : Int)) = false := decide_eq_false (by omega)
  have yk2 : decide ((4096 : Int) < (k : Int)) = false := decide_eq_false (by omega)
  have w1 : IntKind.i64.wrap ((n : Int) + (k : Int)) = (n : Int) + (k : Int) := wrap64 (by omega) (by omega)
  cases y6 : decide ((v.list.length : Int) = (n : Int) + (k : Int))
  · have e := bad fun h => of_decide_eq_false y6 (by have := h.2.2.1; simp only at this; omega)
    simp -dsimp only [go_sem, F19, e_readSR, r_readSR, hcu, y1, y2, cd, y3, y4, yn, yk, yn2, yk2, w1, y6, e]
    exact fe _ (pr _)
  have hnk : v.list.length = n + k := by have := of_decide_eq_true y6; omega
  simp -dsimp only [go_sem, F19, e_readSR, r_readSR, hcu, y1, y2, cd, y3, y4, yn, yk, yn2, yk2, w1, y6]
  refine Ex.count (n := v.list.length) (i0 := 0) (fun i g T => g 1 = .int .i64 n ∧ g 11 = .ptr S.length 0 ∧ Rows2 (S ++ [.cells (valL v)]) T (g 12) (g 13) n (v.list.take i)) (by decide) (by omega) rfl (by omega)
    ⟨rfl, rfl, Rows2.start List.prefix_rfl n _⟩ ?_ ?_ ?_
  · rintro i g T hi gi ⟨g1, g11, hR⟩
    have b1 : T[S.length]? = some (.cells (valL v)) := prefix_get hR.1.1 (get_new0 _ _)
    simp -dsimp only [go_sem, gi, g1, g11, b1]
  · rintro i g T hi gi ⟨g1, g11, hR⟩
    have prT : S <+: T := (List.prefix_append _ _).trans hR.1.1
    have b1 : T[S.length]? = some (.cells (valL v)) := prefix_get hR.1.1 (get_new0 _ _)
    cases z1 : decide ((i : Int) < (n : Int))
    · have z1' : ¬ i < n := by have := of_decide_eq_false z1; omega
      cases z3 : decide (v.list[i].kind = 2)
      · have e := bad fun h => by have := okS_bad hi (n := n) (by rw [if_neg z1']; exact z3); simp only at h; rw [this] at h; cases h.2.2.2
        simp -dsimp only [go_sem, gi, g1, g11, b1, ia_enc .i64 hi, ld_enc, z1, z3, F19, r_readSR, e]
        exact fe _ prT
      · simp -dsimp only [go_sem, gi, g1, g11, b1, ia_enc .i64 hi, ld_enc, z1, z3, enc_b1]
        refine hR.byt hi (by omega) z1' z3 fun y' T' hR' => ?_
        simp -dsimp only [go_sem, gi, g1, g11]
        exact hR'
    · have z1' : i < n := by have := of_decide_eq_true z1; omega
      cases z3 : decide (v.list[i].kind = 1)
      · have e := bad fun h => by have := okS_bad hi (n := n) (by rw [if_pos z1']; exact z3); simp only at h; rw [this] at h; cases h.2.2.2
        simp -dsimp only [go_sem, gi, g1, g11, b1, ia_enc .i64 hi, ld_enc, z1, z3, F19, r_readSR, e]
        exact fe _ prT
      · simp -dsimp only [go_sem, gi, g1, g11, b1, ia_enc .i64 hi, ld_enc, z1, z3, enc_i1]
        refine hR.num hi (by omega) z1' z3 fun x' T' hR' => ?_
        simp -dsimp only [go_sem, gi, g1, g11]
        exact hR'
  · rintro g T gi ⟨g1, g11, hR⟩
    rw [List.take_length] at hR
    have e : readS b n k = (numsS n v.list, bytsS n v.list, 0) := by rw [hr, readSD, if_pos ⟨rfl, of_decide_eq_true y4, hnk, hR.2.2.2⟩]
    obtain ⟨hO1, hO2, _, _⟩ := hR
    simp -dsimp only [go_sem, gi, g1, g11, F19, r_readSR, e]
    exact conv3 ((List.prefix_append _ _).trans hO1.1) (fun i hi => by have := hO1.ids i hi; simp at this; omega) (fun i hi => by have := hO2.ids i hi; simp at this; omega) hO1.rd hO2.rd

/-! ### the plain law -/
theorem right_rec {l : List Int} {m : List Bz} (hn : numsOk l = true) (h1 : l.length ≤ 40) (h2 : m.length ≤ 40) (h3 : ∀ z, z ∈ m → z.b.length ≤ 300) : rightV (recV l m) := by
  have hq := (numsOk_all l).1 hn
  have hmem : ∀ w, w ∈ (l.map numV ++ m.map fun z => rawV z.b) → pureA w = true ∧ deepA w = 0 ∧ (bytesA w).length ≤ 304 := fun w hw => by
    rcases List.mem_append.1 hw with h | h
    · obtain ⟨n, hnm, rfl⟩ := List.mem_map.1 h
      exact ⟨pure_num (hq n hnm).1 (hq n hnm).2, deep_num n, by have := len_num n; omega⟩
    · obtain ⟨z, hz, rfl⟩ := List.mem_map.1 h
      have := h3 z hz
      exact ⟨pure_raw (by omega), deep_raw _, by rw [len_raw (by omega)]; omega⟩
  have hll : (l.map numV ++ m.map fun z => rawV z.b).length ≤ 80 := by simp; omega
  refine ⟨pure_list (by omega) fun w hw => (hmem w hw).1, Nat.le_trans (deep_list (d := 0) fun w hw => by rw [(hmem w hw).2.1]; exact Nat.le_refl _) (by omega), ?_⟩
  have hb := bytesAL_le (c := 304) fun w hw => (hmem w hw).2.2
  have hb2 := Nat.mul_le_mul_right 304 hll
  rw [recV, len_list (by omega)]; omega
theorem nums_right {l : List Int} {m : List Bz} (h : rightV (recV l m)) : numsOk l = true := (numsOk_all l).2 fun n hn => by
  have := pureA_1 (pureA_list h.1 (numV n) (List.mem_append.2 (.inl (List.mem_map.2 ⟨n, hn, rfl⟩))))
  exact (pure1_1 this rfl).1
theorem enc_back (l : List Int) (m : List Bz) : okS l.length (l.map numV ++ m.map fun z => rawV z.b) = true ∧ numsS l.length (l.map numV ++ m.map fun z => rawV z.b) = l ∧ bytsS l.length (l.map numV ++ m.map fun z => rawV z.b) = m := by
  have t : (l.map numV ++ m.map fun z => rawV z.b).take l.length = l.map numV := List.take_left' (by simp)
  have d : (l.map numV ++ m.map fun z => rawV z.b).drop l.length = m.map fun z => rawV z.b := List.drop_left' (by simp)
  refine ⟨?_, ?_, ?_⟩
  · unfold okS; rw [t, d]
    simp [List.all_map, numV, rawV, Val.kind]
  · unfold numsS; rw [t, List.map_map]
    exact (List.map_congr_left fun n _ => rfl).trans (List.map_id' l)
  · unfold bytsS; rw [d, List.map_map]
    exact (List.map_congr_left fun z _ => rfl).trans (List.map_id' m)
theorem pad120 {x : List UInt8} (h : (padP x 120).2 = 0) : (padP x 120).1.length = 120 := by
  have e : padP x 120 = if (120 - 2 : Int) < (x.length : Int) then ([], 3) else (padB x (120 : Int).toNat, 0) := if_neg (by decide)
  rw [e] at h ⊢
  by_cases hx : (120 - 2 : Int) < (x.length : Int)
  · rw [if_pos hx] at h; cases h
  · rw [if_neg hx, padB_len, show (120 : Int).toNat = 120 from rfl]; omega
theorem small_back {l : List Int} {m : List Bz} (h : (smallP l m).2 = 0) : (smallP l m).1.length = 120 ∧ readS (smallP l m).1 l.length m.length = (l, m, 0) := by
  unfold smallP at h ⊢
  split at h
  · rename_i he
    rw [if_pos he]
    have hv : rightV (recV l m) := by
      unfold encodeP at he
      split at he
      · rename_i hs; exact (size_iff _).1 hs
      · cases he
    have hu := (unpad_pad h).1
    rw [encode_ok hv] at h hu ⊢
    have hl : (padP (bytesA (recV l m)) 120).1.length = 120 := pad120 h
    refine ⟨hl, ?_⟩
    obtain ⟨e1, e2, e3⟩ := enc_back l m
    unfold readS
    simp only at hu ⊢
    rw [hu, if_pos ⟨rfl, hl⟩, decode_put hv, readSD, if_pos ⟨rfl, rfl, by simp [recV, listV, Val.list], e1⟩]
    show (numsS l.length (l.map numV ++ m.map fun z => rawV z.b), bytsS l.length (l.map numV ++ m.map fun z => rawV z.b), (0 : Int)) = _
    rw [e2, e3]
  · rename_i he; exact absurd h he
theorem readS_len (b : List UInt8) (n k : Nat) (hn : n ≤ 4096) : (readS b n k).1.length ≤ 4096 ∧ (readS b n k).2.1.length ≤ 4096 ∧ ∀ z, z ∈ (readS b n k).2.1 → z.b.length ≤ 1048576 := by
  unfold readS
  split
  · obtain ⟨d, hd⟩ : ∃ d, decodeP (unpadP b).1 = d := ⟨_, rfl⟩
    rw [hd, readSD]
    split
    · rename_i h
      obtain ⟨v, e0⟩ := d
      have he : e0 = 0 := h.1
      subst he
      obtain ⟨⟨hpu, _, _⟩, _⟩ := decode_inv hd
      have hvl := (pure_llen hpu).1
      refine ⟨by simp [numsS]; omega, by simp [bytsS]; omega, fun z hz => ?_⟩
      obtain ⟨w, hw, rfl⟩ := List.mem_map.1 hz
      exact (pure_llen (pureA_list hpu w (List.mem_of_mem_drop hw))).2
    · exact ⟨by simp, by simp, fun z hz => by cases hz⟩
  · exact ⟨by simp, by simp, fun z hz => by cases hz⟩
theorem ok_recordSmall {E : Env} (hp : E.prim 4 = none) (hf : E.F 4 = some F4) (h1 : E.prim 7 = some fun _ => p_awake35) (h2 : E.prim 13 = some fun _ => p_small) (h3 : E.prim 9 = some fun _ => p_padR)
    (h4 : E.prim 16 = some fun _ => p_readS) (h5 : E.prim 19 = some fun _ => p_readSR) (h6 : E.prim 10 = some fun _ => p_bsame) (h7 : E.prim 14 = some fun _ => p_numbersR) (h8 : E.prim 15 = some fun _ => p_recordR)
    (h9 : E.prim 17 = some fun _ => p_ints) (h10 : E.prim 18 = some fun _ => p_same35) : OkS E 4 e_recordSmall (gd k_recordSmall r_recordSmall) := by
  refine OkS.code hp hf (fun _ => rfl) fun ⟨l, m, b⟩ hk => ?_
  have hk : l.length ≤ 9223372036854775807 ∧ m.length ≤ 9223372036854775807 ∧ b.length ≤ 9223372036854775807 := hk
  cases x1 : decide ((40 : Int) < (l.length : Int))
  rotate_left
  · simp -dsimp only [go_sem, F4, e_recordSmall, r_recordSmall, c_awake35 h1, x1]
  cases x2 : decide ((40 : Int) < (m.length : Int))
  rotate_left
  · simp -dsimp only [go_sem, F4, e_recordSmall, r_recordSmall, c_awake35 h1, x1, x2]
  cases x3 : decide ((2000 : Int) < (b.length : Int))
  rotate_left
  · simp -dsimp only [go_sem, F4, e_recordSmall, r_recordSmall, c_awake35 h1, x1, x2, x3]
  have hl : l.length ≤ 40 := by have := of_decide_eq_false x1; omega
  have hm : m.length ≤ 40 := by have := of_decide_eq_false x2; omega
  have hb : b.length ≤ 2000 := by have := of_decide_eq_false x3; omega
  simp -dsimp only [go_sem, F4, e_recordSmall, c_awake35 h1, x1, x2, x3]
  refine Ex.range (n := m.length) (fun i g T => g 0 = enc l ∧ g 1 = enc m ∧ g 2 = enc b ∧ g 37 = enc m ∧ T = [] ∧ ∀ z, z ∈ m.take i → z.b.length ≤ 300) (by decide) (by omega) rfl rfl ⟨rfl, rfl, rfl, rfl, rfl, fun z hz => by cases hz⟩ ?_ ?_
  · rintro i g T hi gi gn ⟨g0, g1, g2, g37, rfl, hI⟩
    cases y : decide ((300 : Int) < (m[i].b.length : Int))
    · simp -dsimp only [go_sem, gi, gn, g0, g1, g2, g37, ia_enc .i64 hi, y]
      intro z hz
      rw [List.take_succ_eq_append_getElem hi, List.mem_append, List.mem_singleton] at hz
      rcases hz with hz | rfl
      · exact hI z hz
      · have := of_decide_eq_false y; omega
    · simp -dsimp only [go_sem, gi, gn, g0, g1, g2, g37, ia_enc .i64 hi, y, F4, r_recordSmall]
  · rintro g T gi ⟨g0, g1, g2, g37, rfl, hI⟩
    rw [List.take_length] at hI
    have csm := fun (S : Store) (K : AV → Store → Prop) (d : Dm K) => c_small h2 l m ⟨by omega, by omega⟩ (S := S) (K := K) (d := d)
    have cn := fun (S : Store) (K : AV → Store → Prop) (d : Dm K) => c_numbersR h7 l (by omega) (S := S) (K := K) (d := d)
    have cr1 := fun (S : Store) (K : AV → Store → Prop) (d : Dm K) => c_readS h4 b l.length m.length ⟨by omega, by omega, by omega⟩ (S := S) (K := K) (d := d)
    have cr2 := fun (S : Store) (K : AV → Store → Prop) (d : Dm K) => c_readSR h5 b l.length m.length ⟨by omega, by omega, by omega⟩ (S := S) (K := K) (d := d)
    have hq := readS_len b l.length m.length (by omega)
    have ci : ∀ (S : Store) (K : AV → Store → Prop) (d : Dm K), SpD E 17 [enc (readS b l.length m.length).1, enc (readS b l.length m.length).1] S K d = K (.bool true) S := fun S K d => by
      have := c_ints h9 (readS b l.length m.length).1 (readS b l.length m.length).1 (by omega) (S := S) (K := K) (d := d)
      rw [decide_eq_true rfl] at this; exact this
    have cs : ∀ (S : Store) (K : AV → Store → Prop) (d : Dm K), SpD E 18 [enc (readS b l.length m.length).2.1, enc (readS b l.length m.length).2.1] S K d = K (.bool true) S := fun S K d => by
      have := c_same35 h10 (readS b l.length m.length).2.1 (readS b l.length m.length).2.1 ⟨by omega, fun z hz => by have := hq.2.2 z hz; omega⟩ (S := S) (K := K) (d := d)
      rw [decide_eq_true rfl] at this; exact this
    cases yn : numsOk l
    · have he : (encodeP (recV l m)).2 = 2 ∧ (encodeP (recV l m)).1 = [] := by
        unfold encodeP
        rw [if_neg (fun h => by have := nums_right ((size_iff _).1 h); rw [yn] at this; cases this)]
        exact ⟨rfl, rfl⟩
      have e : smallP l m = ([], 2) := by rw [smallP, if_neg (by rw [he.1]; decide), he.1]
      simp -dsimp only [go_sem, gi, g0, g1, g2, csm, e, cn, yn, cr1, cr2, ci, cs, F4, r_recordSmall]
    · have hv := right_rec yn hl hm hI
      have e : smallP l m = padP (bytesA (recV l m)) 120 := by rw [smallP, encode_ok hv]; exact if_pos rfl
      have cc := fun (S : Store) (K : AV → Store → Prop) (d : Dm K) => c_recordR h8 l m hv (S := S) (K := K) (d := d)
      have cp := fun (S : Store) (K : AV → Store → Prop) (d : Dm K) => c_padR h3 (bytesA (recV l m)) 120 (by have := hv.2.2; omega) (S := S) (K := K) (d := d)
      have hpl := padP_len (bytesA (recV l m)) 120
      have cx : ∀ (S : Store) (K : AV → Store → Prop) (d : Dm K), SpD E 10 [enc (padP (bytesA (recV l m)) 120).1, enc (padP (bytesA (recV l m)) 120).1] S K d = K (.bool true) S := fun S K d => by
        have := c_bsame h6 (padP (bytesA (recV l m)) 120).1 (padP (bytesA (recV l m)) 120).1 (by omega) (S := S) (K := K) (d := d)
        rw [decide_eq_true rfl] at this; exact this
      cases y2 : decide ((padP (bytesA (recV l m)) 120).2 = 0)
      · simp -dsimp only [go_sem, gi, g0, g1, g2, csm, e, cn, yn, cc, cp, cx, y2, cr1, cr2, ci, cs, F4, r_recordSmall]
      · have hs := small_back (l := l) (m := m) (by rw [e]; exact of_decide_eq_true y2)
        rw [e] at hs
        have cr3 := fun (S : Store) (K : AV → Store → Prop) (d : Dm K) => c_readS h4 (padP (bytesA (recV l m)) 120).1 l.length m.length ⟨by omega, by omega, by omega⟩ (S := S) (K := K) (d := d)
        rw [hs.2] at cr3
        have ci2 : ∀ (S : Store) (K : AV → Store → Prop) (d : Dm K), SpD E 17 [enc l, enc l] S K d = K (.bool true) S := fun S K d => by
          have := c_ints h9 l l (by omega) (S := S) (K := K) (d := d)
          rw [decide_eq_true rfl] at this; exact this
        have cs2 : ∀ (S : Store) (K : AV → Store → Prop) (d : Dm K), SpD E 18 [enc m, enc m] S K d = K (.bool true) S := fun S K d => by
          have := c_same35 h10 m m ⟨by omega, fun z hz => by have := hI z hz; omega⟩ (S := S) (K := K) (d := d)
          rw [decide_eq_true rfl] at this; exact this
        simp -dsimp only [go_sem, gi, g0, g1, g2, csm, e, cn, yn, cc, cp, cx, y2, cr3, ci2, cs2, cr1, cr2, ci, cs, F4, r_recordSmall]
end Go.Proofs.YtaajlbbooneiiaaDoor.Avm
set_option linter.unusedVariables false
set_option maxRecDepth 100000
namespace Go.Proofs.YtaajlbbooneiiaaDoor.Avm.Cd
open Go
noncomputable abbrev E0 : Env := Bl.E12
theorem A0 : AllOK Tryd.prog E0 := Bl.env
noncomputable def E1 : Env := E0.add 60 p_low
theorem A1 : AllOK Tryd.prog E1 := AllOK.addG hmix A0 (by apply ok_low <;> rfl)
noncomputable def E2 : Env := E1.add 61 p_turned
theorem A2 : AllOK Tryd.prog E2 := AllOK.addG hmix A1 (by apply ok_turned <;> rfl)
noncomputable def E3 : Env := E2.add 35 p_put01
theorem A3 : AllOK Tryd.prog E3 := AllOK.addG hmix A2 (by apply ok_put01 <;> rfl)
noncomputable def E4 : Env := E3.add 78 p_plain
theorem A4 : AllOK Tryd.prog E4 := AllOK.addG hmix A3 (by apply ok_plain <;> rfl)
noncomputable def E5 : Env := E4.add 89 p_pure
theorem A5 : AllOK Tryd.prog E5 := AllOK.addS hmix A4 (Scal.gd fun _ => Scal.bool _) (by apply ok_pure <;> rfl)
noncomputable def E6 : Env := E5.add 77 (p_measure 17)
theorem A6 : AllOK Tryd.prog E6 := AllOK.recS hmix A5 rfl (fun _ => Scal.tup2 (Scal.int _ _) (Scal.bool _)) (fun ⟨v, r, d⟩ h => by have := h.1; have := h.2.1; omega) (fun d => okB_measure rfl rfl rfl) 17
noncomputable def E7 : Env := E6.add 63 p_size
theorem A7 : AllOK Tryd.prog E7 := AllOK.addS hmix A6 (Scal.gd fun _ => Scal.tup2 (Scal.int _ _) (Scal.bool _)) (by apply ok_size <;> rfl)
noncomputable def E8 : Env := E7.add 43 p_encode
theorem A8 : AllOK Tryd.prog E8 := AllOK.addG hmix A7 ((ok_encode rfl rfl rfl rfl rfl rfl rfl fun v h => ⟨((size_iff v).1 h).1, ((size_iff v).1 h).2.2⟩))
noncomputable def E9 : Env := E8.add 40 p_of02
theorem A9 : AllOK Tryd.prog E9 := AllOK.addE hmix A8 (ok_of02 rfl rfl)
noncomputable def E10 : Env := E9.add 41 p_num02
theorem A10 : AllOK Tryd.prog E10 := AllOK.addG hmix A9 (by apply ok_num02 <;> rfl)
noncomputable def E11 : Env := E10.add 42 p_raw02
theorem A11 : AllOK Tryd.prog E11 := AllOK.addG hmix A10 (by apply ok_raw02 <;> rfl)
noncomputable def E12 : Env := E11.add 81 p_take
theorem A12 : AllOK Tryd.prog E12 := AllOK.addM hmix A11 (by apply ok_take <;> rfl)
noncomputable def E13 : Env := E12.add 84 p_fail
theorem A13 : AllOK Tryd.prog E13 := AllOK.addM hmix A12 (by apply ok_fail <;> rfl)
noncomputable def E14 : Env := E13.add 83 p_count
theorem A14 : AllOK Tryd.prog E14 := AllOK.addM hmix A13 (by apply ok_count <;> rfl)
noncomputable def E15 : Env := E14.add 82 p_number
theorem A15 : AllOK Tryd.prog E15 := AllOK.addM hmix A14 (by apply ok_number <;> rfl)
noncomputable def E16 : Env := E15.add 66 (p_value 17)
theorem A16 : AllOK Tryd.prog E16 := AllOK.recM hmix A15 rfl (fun s n h => by have := h.1; omega) (fun d => okB_value rfl rfl rfl rfl rfl rfl rfl rfl) 17
noncomputable def E17 : Env := E16.add 48 p_decode
theorem A17 : AllOK Tryd.prog E17 := AllOK.addG hmix A16 (by apply ok_decode <;> rfl)
noncomputable def E18 : Env := E17.add 54 p_fields
theorem A18 : AllOK Tryd.prog E18 := AllOK.addG hmix A17 (by apply ok_fields <;> rfl)
noncomputable def E19 : Env := E18.add 79 p_lowR
theorem A19 : AllOK Tryd.prog E19 := AllOK.addG hmix A18 (by apply ok_lowR <;> rfl)
noncomputable def E20 : Env := E19.add 80 p_turnedR
theorem A20 : AllOK Tryd.prog E20 := AllOK.addG hmix A19 (by apply ok_turnedR <;> rfl)
noncomputable def E21 : Env := E20.add 65 p_putR
theorem A21 : AllOK Tryd.prog E21 := AllOK.addG hmix A20 (by apply ok_putR <;> rfl)
noncomputable def E22 : Env := E21.add 85 p_getR
theorem A22 : AllOK Tryd.prog E22 := AllOK.addS hmix A21 (Scal.gd fun _ => Scal.tup2 (Scal.int _ _) (Scal.int _ _)) (by apply ok_getR <;> rfl)
noncomputable def E23 : Env := E22.add 46 (p_bytesR 17)
theorem A23 : AllOK Tryd.prog E23 := AllOK.recG hmix A22 rfl (fun v h => by have := h.2.1; omega) (fun d => okB_bytesR rfl rfl) 17
noncomputable def E24 : Env := E23.add 67 (p_readR 17)
theorem A24 : AllOK Tryd.prog E24 := AllOK.recG hmix A23 rfl (fun ⟨b, a, n⟩ h => by have := h.1; omega) (fun d => okB_readR rfl rfl) 17
noncomputable def E25 : Env := E24.add 49 p_decodeR
theorem A25 : AllOK Tryd.prog E25 := AllOK.addG hmix A24 (by apply ok_decodeR <;> rfl)
noncomputable def E26 : Env := E25.add 47 p_ofR28
theorem A26 : AllOK Tryd.prog E26 := AllOK.addG hmix A25 (by apply ok_ofR28 <;> rfl)
noncomputable def E27 : Env := E26.add 44 p_numR28
theorem A27 : AllOK Tryd.prog E27 := AllOK.addG hmix A26 (by apply ok_numR28 <;> rfl)
noncomputable def E28 : Env := E27.add 45 p_rawR28
theorem A28 : AllOK Tryd.prog E28 := AllOK.addG hmix A27 (by apply ok_rawR28 <;> rfl)
noncomputable def E29 : Env := E28.add 56 p_kindsR
theorem A29 : AllOK Tryd.prog E29 := AllOK.addS hmix A28 (Scal.gd fun _ => Scal.bool _) (by apply ok_kindsR <;> rfl)
theorem env : AllOK Tryd.prog E29 := A29
noncomputable abbrev EL : Env := E29
end Go.Proofs.YtaajlbbooneiiaaDoor.Avm.Cd
set_option linter.unusedVariables false
set_option maxRecDepth 100000
namespace Go.Proofs.YtaajlbbooneiiaaDoor.Avm.Sm
open Go
noncomputable abbrev E0 : Env := Cd.EL
theorem A0 : AllOK Tryd.prog E0 := Cd.env
noncomputable def E1 : Env := E0.add 13 p_small
theorem A1 : AllOK Tryd.prog E1 := AllOK.addG hmix A0 (by apply ok_small <;> rfl)
noncomputable def E2 : Env := E1.add 14 p_numbersR
theorem A2 : AllOK Tryd.prog E2 := AllOK.addS hmix A1 (Scal.gd fun _ => Scal.bool _) (by apply ok_numbersR <;> rfl)
noncomputable def E3 : Env := E2.add 15 p_recordR
theorem A3 : AllOK Tryd.prog E3 := AllOK.addG hmix A2 (by apply ok_recordR <;> rfl)
noncomputable def E4 : Env := E3.add 16 p_readS
theorem A4 : AllOK Tryd.prog E4 := AllOK.addG hmix A3 (by apply ok_readS <;> rfl)
noncomputable def E5 : Env := E4.add 19 p_readSR
theorem A5 : AllOK Tryd.prog E5 := AllOK.addG hmix A4 (by apply ok_readSR <;> rfl)
noncomputable def E6 : Env := E5.add 17 p_ints
theorem A6 : AllOK Tryd.prog E6 := AllOK.addS hmix A5 (Scal.gd fun _ => Scal.bool _) (by apply ok_ints <;> rfl)
noncomputable def E7 : Env := E6.add 18 p_same35
theorem A7 : AllOK Tryd.prog E7 := AllOK.addS hmix A6 (Scal.gd fun _ => Scal.bool _) (by apply ok_same35 <;> rfl)
theorem law_is (a : List Int × List Bz × List UInt8) (h : k_recordSmall a) : ∃ S1, Is E7 4 (e_recordSmall a) [] (.bool true) S1 :=
  have k : OkS E7 4 e_recordSmall (gd k_recordSmall r_recordSmall) := by apply ok_recordSmall <;> rfl
  k a _ (gd_eq h)
theorem env : AllOK Tryd.prog E7 := A7
end Go.Proofs.YtaajlbbooneiiaaDoor.Avm.Sm
set_option linter.unusedVariables false
namespace Go.Proofs.YtaajlbbooneiiaaDoor.Avm
open Go.ChangeShapes Go.WideShapes Go.ChangeAt Go.RowKit
theorem opInt : Opens Tryd.prog 3 (Rec.c (α := Int)) (fun _ => True) := (Opens.int Tryd.underlying3).as id (fun _ => rfl) fun _ _ => trivial
theorem opInts : Opens Tryd.prog 33 (fun l : List Int => [enc l]) (fun l => l.length ≤ maxLen ∧ ∀ a ∈ l, True) := Opens.slice Tryd.underlying33 (by kernel_rfl) opInt
theorem opInts1 : Opens1 Tryd.prog 33 (fun l : List Int => enc l) (fun l => l.length ≤ maxLen ∧ ∀ a ∈ l, True) := Opens1.slice Tryd.underlying33 opInts
theorem opBz : Opens Tryd.prog 22 (Rec.c (α := Bz)) (fun _ => True) := opBytes.as (fun l => ⟨l⟩) (fun _ => rfl) fun _ _ => trivial
theorem opBzs : Opens Tryd.prog 34 (fun l : List Bz => [enc l]) (fun l => l.length ≤ maxLen ∧ ∀ a ∈ l, True) := Opens.slice Tryd.underlying34 (by kernel_rfl) opBz
theorem opBzs1 : Opens1 Tryd.prog 34 (fun l : List Bz => enc l) (fun l => l.length ≤ maxLen ∧ ∀ a ∈ l, True) := Opens1.slice Tryd.underlying34 opBzs
theorem backIs : Back1 Tryd.prog 33 := ⟨by kernel_rfl, of_decide_eq_true (by kernel_rfl)⟩
theorem backBs : Back1 Tryd.prog 34 := ⟨by kernel_rfl, of_decide_eq_true (by kernel_rfl)⟩
theorem opSmall : OpensA Tryd.prog [33, 34, 22] e_recordSmall k_recordSmall :=
  (OpensA.cons laidOut backIs opInts1 (OpensA.cons laidOut backBs opBzs1 (OpensA.one laidOut backB opBytes1))).as id (fun _ => rfl) fun p h => ⟨h.1.1, h.2.1.1, h.2.2.1⟩
set_option maxRecDepth 100000 in
theorem liftedSmall (os : Os) (started : os.Started) (H : Type) (en : TypeId × Value → H) :
    ReturnsInHanded {} Tryd.checked os 4 .any (fun w args => (Rows.recordSmallSpec.pre en Tryd.prog Tryd.f4 Rows.recordSmallRow.domain false w args ∧ laidMetH Tryd.prog laid3 w) ∧ sizedMet en Tryd.prog Tryd.f4 (OpenSpec.ofChange Rows.recordSmallSpec) false w args)
      (Rows.recordSmallSpec.post en Tryd.prog Tryd.f4 false true false false) :=
  law_laid (C := Tryd.checked) (X := fun w _ => laidMetH Tryd.prog laid3 w) (fun _ _ _ hh h => h.of_heap hh) own started (by kernel_rfl) Tryd.func4
    (ChangeSpec.witness_shaped (enc := en) (C := Tryd.checked) (os := os) (X := fun w _ => laidMetH Tryd.prog laid3 w) false (World.doorLaid Tryd.prog 24 os) #[.slice none 0 0, .slice none 0 0, .slice none 0 0] 8 rfl (World.shaped_of_RefB (by kernel_rfl) (by kernel_rfl)) (by kernel_rfl) (by kernel_rfl) (by kernel_rfl) (door_met os _))
    (by kernel_rfl) (by kernel_rfl) hmix Sm.env opSmall rfl (fun ds h => by
      match ds, h with
      | [a, b, c], _ => rfl) rfl Tryd.underlying4 fun a h => Sm.law_is a h
theorem overSmall : Rows.recordSmallRow.holds Tryd.pinned (OpenSpec.ofChange Rows.recordSmallSpec) :=
  OpenClaim.holds_of_wide 4 Tryd.f4 rfl rfl rfl rfl rfl rfl rfl ⟨rfl, rfl, rfl, rfl, rfl⟩ rfl rfl rfl rfl rfl (by kernel_rfl) Tryd.func4 (by kernel_rfl)
    (of_decide_eq_true (by kernel_rfl)) (by unfold Func.isWrapper; first | (rw [if_pos (by decide +kernel)]; kernel_rfl) | (rw [if_neg (by decide +kernel)]; exact ⟨rfl, rfl⟩))
    (fun os started H enc _ => liftedSmall os started H enc)
theorem cardSmall : Rows.RecordSmallCardSaid :=
  Claim7.holds_tied_plain_at .later [] [.data, .data, .data] true (true, "e55152458ed226ca7f1b8a51d1e5809449f217fe6effbf2a061d9a1bd2503f07") false
    overSmall (fun _ h => by cases h) (by kernel_rfl) (fun _ h => by cases h) recordSmall_row_tie rfl ⟨rfl, rfl⟩ (by kernel_rfl) rfl
    (fun f fn hf hfn => by
      obtain rfl : f = 4 := Option.some.inj ((show Tryd.prog.funcNamed Rows.recordSmallRow.func = some 4 by kernel_rfl).symm.trans hf) |>.symm
      obtain rfl : fn = Tryd.f4 := (Option.some.inj (Tryd.func4.symm.trans hfn)).symm
      exact ⟨by kernel_rfl, fun j t ht => by
        rw [Tryd.params4] at ht
        have hm : t ∈ [33, 34, 22] := by simpa using Array.mem_of_getElem? ht
        have hall : ([33, 34, 22].all fun u => !Tryd.prog.wantsStandIn u) = true := by kernel_rfl
        exact (show Tryd.prog.wantsStandIn t = false by simpa using List.all_eq_true.1 hall t hm)⟩)
    (by kernel_rfl)
end Go.Proofs.YtaajlbbooneiiaaDoor.Avm
namespace Go.Proofs.YtaajlbbooneiiaaDoor
/-- The card, under a short name, for the claim. -/
theorem recordSmall_holds : Rows.RecordSmallCardSaid := Avm.cardSmall
#print axioms recordSmall_holds
end Go.Proofs.YtaajlbbooneiiaaDoor
