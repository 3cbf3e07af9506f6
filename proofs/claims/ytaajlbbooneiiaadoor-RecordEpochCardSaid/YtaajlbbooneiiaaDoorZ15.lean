/- Records of versions and epochs: what may be. Records of versions: their texts. Records of versions: read; the document's. Records of versions: the document's reading; the law. -/
import Derived.Test.YtaajlbbooneiiaaDoorZ14
set_option linter.unusedVariables false
set_option linter.unusedSimpArgs false
set_option maxRecDepth 10000
namespace Go.Proofs.YtaajlbbooneiiaaDoor.Avm

@[ext] structure VerR where
  folder : Str
  item : Str
  number : Int
  epoch : Int
  seq : Int
  digest : List UInt8
  gone : Bool
  lock : List UInt8
  body : List UInt8
  by' : Str
deriving instance DecidableEq for VerR
abbrev verL (r : VerR) : List AV := [.str r.folder, .str r.item, .int .i64 r.number, .int .i64 r.epoch, .int .i64 r.seq, enc r.digest, .bool r.gone, enc r.lock, enc r.body, .str r.by']
def seqOk (n : Int) : Bool := decide (1 ≤ n ∧ n ≤ 1099511627776)
def longOk (b : List UInt8) (m : Int) : Bool := decide (1 ≤ (b.length : Int) ∧ (b.length : Int) ≤ m)
def numOk (n : Int) : Bool := decide (1 ≤ n ∧ n ≤ 256)
def goneOk (r : VerR) : Bool := decide (r.lock.length = 0) && decide (r.body.length = 0)
def restOk (r : VerR) : Bool := longOk r.lock 100 && longOk r.body 600
def mayV (r : VerR) : Bool := nameOk r.folder && (nameOk r.item && (nameOk r.by' && (numOk r.number && (seqOk r.epoch && (seqOk r.seq && (longOk r.digest 64 && if r.gone = true then goneOk r else restOk r))))))
def longV (r : VerR) : Prop := (r.folder.length ≤ 1000000000000 ∧ r.item.length ≤ 1000000000000 ∧ r.by'.length ≤ 1000000000000) ∧ r.digest.length ≤ 1000000000000 ∧ r.lock.length ≤ 1000000000000 ∧ r.body.length ≤ 1000000000000
def markV : List UInt8 := [118, 101, 114, 115, 105, 111, 110]
def goneV (r : VerR) : Int := if r.gone = true then 1 else 0
def verVs (r : VerR) : List Val := [rawV markV, rawV r.folder, rawV r.item, numV r.number, numV r.epoch, numV r.seq, rawV r.digest, numV (goneV r), rawV r.lock, rawV r.body, rawV r.by']
def verV (r : VerR) : Val := listV (verVs r)
def textVP (r : VerR) : List UInt8 × Int := if mayV r = true then (bytesA (verV r), 0) else ([], 2)
def ksV : List Int := [2, 2, 2, 1, 1, 1, 2, 1, 2, 2, 2]
def ver0 : VerR := ⟨[], [], 0, 0, 0, [], false, [], [], []⟩
def verOf (l : List Val) : VerR := ⟨(at0 l 1).bytes, (at0 l 2).bytes, (at0 l 3).num, (at0 l 4).num, (at0 l 5).num, (at0 l 6).bytes, decide ((at0 l 7).num = 1), (at0 l 8).bytes, (at0 l 9).bytes, (at0 l 10).bytes⟩
def readVD (d : Val × Int) : VerR × Int :=
  if d.2 ≠ 0 then (ver0, d.2)
  else if (fieldsP d.1 ksV).2 = false ∨ (at0 d.1.list 0).bytes ≠ markV ∨ 1 < (at0 d.1.list 7).num ∨ mayV (verOf d.1.list) = false then (ver0, 11) else (verOf d.1.list, 0)
def readV (b : List UInt8) : VerR × Int := readVD (decodeP b)

def e_seq35 : Int → List AV := fun n => [.int .i64 n]
def k_seq35 : Int → Prop := fun n => True
def r_seq35 : Int → AV := fun n => .bool (seqOk n)
noncomputable def p_seq35 : List AV → Store → Option (AV × Store) := primS e_seq35 (gd k_seq35 r_seq35)
theorem i_seq35 : Inj e_seq35 := by
  intro n1 n2 h
  simpa only [e_seq35, enc_inj, rec_inj, AV.str.injEq, AV.int.injEq, AV.bool.injEq, AV.agg.injEq, AV.ptr.injEq, AV.fn.injEq, List.cons.injEq, and_true, true_and, Prod.mk.injEq] using h
theorem c_seq35 {E : Env} (h : E.prim 69 = some fun _ => p_seq35) (n : Int) {S : Store} {K : AV → Store → Prop} {d : Dm K} : SpD E 69 [.int .i64 n] S K d = K (.bool (seqOk n)) S :=
  callS h i_seq35 (a := n) (by simp only [e_seq35, rdSL_cons, rdSL_nil, rdS_int, rdS_bool, rdS_str, enc_rdS, rdS_fn0, rdS_csl0, rdS_rec, rdSL_rec, rdS_agg, rdS_tup, Option.bind_some, Option.map_some]) trivial
theorem c_seq35' {E : Env} (h : E.prim 69 = some fun _ => p_seq35) {S : Store} {x0 : AV} {n : Int} (h0 : rdS S x0 = some (.int .i64 n)) {K : AV → Store → Prop} {d : Dm K} : SpD E 69 [x0] S K d = K (.bool (seqOk n)) S :=
  callS h i_seq35 (a := n) (by simp only [e_seq35, rdSL, h0, Option.bind_some, Option.map_some]) trivial
def e_long35 : (List UInt8) × Int → List AV := fun | (b, m) => [enc b, .int .i64 m]
def k_long35 : (List UInt8) × Int → Prop := fun | (b, m) => b.length ≤ 9223372036854775000
def r_long35 : (List UInt8) × Int → AV := fun | (b, m) => .bool (longOk b m)
noncomputable def p_long35 : List AV → Store → Option (AV × Store) := primS e_long35 (gd k_long35 r_long35)
theorem i_long35 : Inj e_long35 := by
  rintro ⟨b1, m1⟩ ⟨b2, m2⟩ h
  simpa only [e_long35, enc_inj, rec_inj, AV.str.injEq, AV.int.injEq, AV.bool.injEq, AV.agg.injEq, AV.ptr.injEq, AV.fn.injEq, List.cons.injEq, and_true, true_and, Prod.mk.injEq] using h
theorem c_long35 {E : Env} (h : E.prim 70 = some fun _ => p_long35) (b : List UInt8) (m : Int) (hk : b.length ≤ 9223372036854775000) {S : Store} {K : AV → Store → Prop} {d : Dm K} : SpD E 70 [enc b, .int .i64 m] S K d = K (.bool (longOk b m)) S :=
  callS h i_long35 (a := (b, m)) (by simp only [e_long35, rdSL_cons, rdSL_nil, rdS_int, rdS_bool, rdS_str, enc_rdS, rdS_fn0, rdS_csl0, rdS_rec, rdSL_rec, rdS_agg, rdS_tup, Option.bind_some, Option.map_some]) hk
theorem c_long35' {E : Env} (h : E.prim 70 = some fun _ => p_long35) {S : Store} {x0 x1 : AV} {b : List UInt8} {m : Int} (h0 : rdS S x0 = some (enc b)) (h1 : rdS S x1 = some (.int .i64 m)) (hk : b.length ≤ 9223372036854775000) {K : AV → Store → Prop} {d : Dm K} : SpD E 70 [x0, x1] S K d = K (.bool (longOk b m)) S :=
  callS h i_long35 (a := (b, m)) (by simp only [e_long35, rdSL, h0, h1, Option.bind_some, Option.map_some]) hk
def e_inR35 : Int × Int × Int → List AV := fun | (n, a, c) => [.int .i64 n, .int .i64 a, .int .i64 c]
def k_inR35 : Int × Int × Int → Prop := fun | (n, a, c) => True
def r_inR35 : Int × Int × Int → AV := fun | (n, a, c) => .bool (decide (a ≤ n ∧ n ≤ c))
noncomputable def p_inR35 : List AV → Store → Option (AV × Store) := primS e_inR35 (gd k_inR35 r_inR35)
theorem i_inR35 : Inj e_inR35 := by
  rintro ⟨n1, a1, c1⟩ ⟨n2, a2, c2⟩ h
  simpa only [e_inR35, enc_inj, rec_inj, AV.str.injEq, AV.int.injEq, AV.bool.injEq, AV.agg.injEq, AV.ptr.injEq, AV.fn.injEq, List.cons.injEq, and_true, true_and, Prod.mk.injEq] using h
theorem c_inR35 {E : Env} (h : E.prim 53 = some fun _ => p_inR35) (n : Int) (a : Int) (c : Int) {S : Store} {K : AV → Store → Prop} {d : Dm K} : SpD E 53 [.int .i64 n, .int .i64 a, .int .i64 c] S K d = K (.bool (decide (a ≤ n ∧ n ≤ c))) S :=
  callS h i_inR35 (a := (n, a, c)) (by simp only [e_inR35, rdSL_cons, rdSL_nil, rdS_int, rdS_bool, rdS_str, enc_rdS, rdS_fn0, rdS_csl0, rdS_rec, rdSL_rec, rdS_agg, rdS_tup, Option.bind_some, Option.map_some]) trivial
theorem c_inR35' {E : Env} (h : E.prim 53 = some fun _ => p_inR35) {S : Store} {x0 x1 x2 : AV} {n : Int} {a : Int} {c : Int} (h0 : rdS S x0 = some (.int .i64 n)) (h1 : rdS S x1 = some (.int .i64 a)) (h2 : rdS S x2 = some (.int .i64 c)) {K : AV → Store → Prop} {d : Dm K} : SpD E 53 [x0, x1, x2] S K d = K (.bool (decide (a ≤ n ∧ n ≤ c))) S :=
  callS h i_inR35 (a := (n, a, c)) (by simp only [e_inR35, rdSL, h0, h1, h2, Option.bind_some, Option.map_some]) trivial
def e_text35 : Str → List AV := fun s => [.str s]
def k_text35 : Str → Prop := fun s => s.length ≤ 140737488355328
def r_text35 : Str → AV := fun s => .agg (valL (rawV s))
noncomputable def p_text35 : List AV → Store → Option (AV × Store) := primG e_text35 (gd k_text35 r_text35)
theorem i_text35 : Inj e_text35 := by
  intro s1 s2 h
  simpa only [e_text35, enc_inj, rec_inj, AV.str.injEq, AV.int.injEq, AV.bool.injEq, AV.agg.injEq, AV.ptr.injEq, AV.fn.injEq, List.cons.injEq, and_true, true_and, Prod.mk.injEq] using h
theorem c_text35 {E : Env} (h : E.prim 51 = some fun _ => p_text35) (s : Str) (hk : s.length ≤ 140737488355328) {S : Store} {K : AV → Store → Prop} {d : Dm K} : SpD E 51 [.str s] S K d = K (.agg (valL (rawV s))) S := by
  have := callG h i_text35 (a := s) (S := S) (args := [.str s]) (K := K) (d := d) (by simp only [e_text35, rdSL_cons, rdSL_nil, rdS_int, rdS_bool, rdS_str, enc_rdS, rdS_fn0, rdS_csl0, rdS_rec, rdSL_rec, rdS_agg, rdS_tup, Option.bind_some, Option.map_some]) hk
  simpa only [r_text35, topL_cons, topL_nil, top_int, top_bool, top_str, top_csl, enc_top, top_agg, top_rec, top_fn, List.nil_append, killL_nil] using this
theorem c_text35' {E : Env} (h : E.prim 51 = some fun _ => p_text35) {S : Store} {x0 : AV} {s : Str} (h0 : rdS S x0 = some (.str s)) (hk : s.length ≤ 140737488355328) {K : AV → Store → Prop} {d : Dm K} : SpD E 51 [x0] S K d = K (.agg (valL (rawV s))) (killL (topIdsL [x0]) S) :=
  callG h i_text35 (a := s) (by simp only [e_text35, rdSL, h0, Option.bind_some, Option.map_some]) hk
def e_textR35 : Str → List AV := fun s => [.str s]
def k_textR35 : Str → Prop := fun s => s.length ≤ 140737488355328
def r_textR35 : Str → AV := fun s => .agg (valL (rawV s))
noncomputable def p_textR35 : List AV → Store → Option (AV × Store) := primG e_textR35 (gd k_textR35 r_textR35)
theorem i_textR35 : Inj e_textR35 := by
  intro s1 s2 h
  simpa only [e_textR35, enc_inj, rec_inj, AV.str.injEq, AV.int.injEq, AV.bool.injEq, AV.agg.injEq, AV.ptr.injEq, AV.fn.injEq, List.cons.injEq, and_true, true_and, Prod.mk.injEq] using h
theorem c_textR35 {E : Env} (h : E.prim 55 = some fun _ => p_textR35) (s : Str) (hk : s.length ≤ 140737488355328) {S : Store} {K : AV → Store → Prop} {d : Dm K} : SpD E 55 [.str s] S K d = K (.agg (valL (rawV s))) S := by
  have := callG h i_textR35 (a := s) (S := S) (args := [.str s]) (K := K) (d := d) (by simp only [e_textR35, rdSL_cons, rdSL_nil, rdS_int, rdS_bool, rdS_str, enc_rdS, rdS_fn0, rdS_csl0, rdS_rec, rdSL_rec, rdS_agg, rdS_tup, Option.bind_some, Option.map_some]) hk
  simpa only [r_textR35, topL_cons, topL_nil, top_int, top_bool, top_str, top_csl, enc_top, top_agg, top_rec, top_fn, List.nil_append, killL_nil] using this
theorem c_textR35' {E : Env} (h : E.prim 55 = some fun _ => p_textR35) {S : Store} {x0 : AV} {s : Str} (h0 : rdS S x0 = some (.str s)) (hk : s.length ≤ 140737488355328) {K : AV → Store → Prop} {d : Dm K} : SpD E 55 [x0] S K d = K (.agg (valL (rawV s))) (killL (topIdsL [x0]) S) :=
  callG h i_textR35 (a := s) (by simp only [e_textR35, rdSL, h0, Option.bind_some, Option.map_some]) hk
def e_mayV : VerR → List AV := fun r => [.agg (verL r)]
def k_mayV : VerR → Prop := fun r => longV r
def r_mayV : VerR → AV := fun r => .bool (mayV r)
noncomputable def p_mayV : List AV → Store → Option (AV × Store) := primS e_mayV (gd k_mayV r_mayV)
theorem i_mayV : Inj e_mayV := by
  intro r1 r2 h
  simpa only [e_mayV, enc_inj, rec_inj, AV.str.injEq, AV.int.injEq, AV.bool.injEq, AV.agg.injEq, AV.ptr.injEq, AV.fn.injEq, List.cons.injEq, and_true, true_and, Prod.mk.injEq, VerR.ext_iff, and_assoc] using h
theorem c_mayV {E : Env} (h : E.prim 50 = some fun _ => p_mayV) (r : VerR) (hk : longV r) {S : Store} {K : AV → Store → Prop} {d : Dm K} : SpD E 50 [.agg (verL r)] S K d = K (.bool (mayV r)) S :=
  callS h i_mayV (a := r) (by simp only [e_mayV, rdSL_cons, rdSL_nil, rdS_int, rdS_bool, rdS_str, enc_rdS, rdS_fn0, rdS_csl0, rdS_rec, rdSL_rec, rdS_agg, rdS_tup, Option.bind_some, Option.map_some]) hk
theorem c_mayV' {E : Env} (h : E.prim 50 = some fun _ => p_mayV) {S : Store} {x0 : AV} {r : VerR} (h0 : rdS S x0 = some (.agg (verL r))) (hk : longV r) {K : AV → Store → Prop} {d : Dm K} : SpD E 50 [x0] S K d = K (.bool (mayV r)) S :=
  callS h i_mayV (a := r) (by simp only [e_mayV, rdSL, h0, Option.bind_some, Option.map_some]) hk
def e_mayVR : VerR → List AV := fun r => [.agg (verL r)]
def k_mayVR : VerR → Prop := fun r => longV r
def r_mayVR : VerR → AV := fun r => .bool (mayV r)
noncomputable def p_mayVR : List AV → Store → Option (AV × Store) := primS e_mayVR (gd k_mayVR r_mayVR)
theorem i_mayVR : Inj e_mayVR := by
  intro r1 r2 h
  simpa only [e_mayVR, enc_inj, rec_inj, AV.str.injEq, AV.int.injEq, AV.bool.injEq, AV.agg.injEq, AV.ptr.injEq, AV.fn.injEq, List.cons.injEq, and_true, true_and, Prod.mk.injEq, VerR.ext_iff, and_assoc] using h
theorem c_mayVR {E : Env} (h : E.prim 21 = some fun _ => p_mayVR) (r : VerR) (hk : longV r) {S : Store} {K : AV → Store → Prop} {d : Dm K} : SpD E 21 [.agg (verL r)] S K d = K (.bool (mayV r)) S :=
  callS h i_mayVR (a := r) (by simp only [e_mayVR, rdSL_cons, rdSL_nil, rdS_int, rdS_bool, rdS_str, enc_rdS, rdS_fn0, rdS_csl0, rdS_rec, rdSL_rec, rdS_agg, rdS_tup, Option.bind_some, Option.map_some]) hk
theorem c_mayVR' {E : Env} (h : E.prim 21 = some fun _ => p_mayVR) {S : Store} {x0 : AV} {r : VerR} (h0 : rdS S x0 = some (.agg (verL r))) (hk : longV r) {K : AV → Store → Prop} {d : Dm K} : SpD E 21 [x0] S K d = K (.bool (mayV r)) S :=
  callS h i_mayVR (a := r) (by simp only [e_mayVR, rdSL, h0, Option.bind_some, Option.map_some]) hk
def e_textV : VerR → List AV := fun r => [.agg (verL r)]
def k_textV : VerR → Prop := fun r => longV r
def r_textV : VerR → AV := fun r => .tup [enc (textVP r).1, .int .i64 (textVP r).2]
noncomputable def p_textV : List AV → Store → Option (AV × Store) := primG e_textV (gd k_textV r_textV)
theorem i_textV : Inj e_textV := by
  intro r1 r2 h
  simpa only [e_textV, enc_inj, rec_inj, AV.str.injEq, AV.int.injEq, AV.bool.injEq, AV.agg.injEq, AV.ptr.injEq, AV.fn.injEq, List.cons.injEq, and_true, true_and, Prod.mk.injEq, VerR.ext_iff, and_assoc] using h
theorem c_textV {E : Env} (h : E.prim 20 = some fun _ => p_textV) (r : VerR) (hk : longV r) {S : Store} {K : AV → Store → Prop} {d : Dm K} : SpD E 20 [.agg (verL r)] S K d = K (.tup [enc (textVP r).1, .int .i64 (textVP r).2]) S := by
  have := callG h i_textV (a := r) (S := S) (args := [.agg (verL r)]) (K := K) (d := d) (by simp only [e_textV, rdSL_cons, rdSL_nil, rdS_int, rdS_bool, rdS_str, enc_rdS, rdS_fn0, rdS_csl0, rdS_rec, rdSL_rec, rdS_agg, rdS_tup, Option.bind_some, Option.map_some]) hk
  simpa only [r_textV, topL_cons, topL_nil, top_int, top_bool, top_str, top_csl, enc_top, top_agg, top_rec, top_fn, List.nil_append, killL_nil] using this
theorem c_textV' {E : Env} (h : E.prim 20 = some fun _ => p_textV) {S : Store} {x0 : AV} {r : VerR} (h0 : rdS S x0 = some (.agg (verL r))) (hk : longV r) {K : AV → Store → Prop} {d : Dm K} : SpD E 20 [x0] S K d = K (.tup [enc (textVP r).1, .int .i64 (textVP r).2]) (killL (topIdsL [x0]) S) :=
  callG h i_textV (a := r) (by simp only [e_textV, rdSL, h0, Option.bind_some, Option.map_some]) hk
def e_textVR : VerR → List AV := fun r => [.agg (verL r)]
def k_textVR : VerR → Prop := fun r => mayV r = true
def r_textVR : VerR → AV := fun r => enc (bytesA (verV r))
noncomputable def p_textVR : List AV → Store → Option (AV × Store) := primG e_textVR (gd k_textVR r_textVR)
theorem i_textVR : Inj e_textVR := by
  intro r1 r2 h
  simpa only [e_textVR, enc_inj, rec_inj, AV.str.injEq, AV.int.injEq, AV.bool.injEq, AV.agg.injEq, AV.ptr.injEq, AV.fn.injEq, List.cons.injEq, and_true, true_and, Prod.mk.injEq, VerR.ext_iff, and_assoc] using h
theorem c_textVR {E : Env} (h : E.prim 23 = some fun _ => p_textVR) (r : VerR) (hk : mayV r = true) {S : Store} {K : AV → Store → Prop} {d : Dm K} : SpD E 23 [.agg (verL r)] S K d = K (enc (bytesA (verV r))) S := by
  have := callG h i_textVR (a := r) (S := S) (args := [.agg (verL r)]) (K := K) (d := d) (by simp only [e_textVR, rdSL_cons, rdSL_nil, rdS_int, rdS_bool, rdS_str, enc_rdS, rdS_fn0, rdS_csl0, rdS_rec, rdSL_rec, rdS_agg, rdS_tup, Option.bind_some, Option.map_some]) hk
  simpa only [r_textVR, topL_cons, topL_nil, top_int, top_bool, top_str, top_csl, enc_top, top_agg, top_rec, top_fn, List.nil_append, killL_nil] using this
theorem c_textVR' {E : Env} (h : E.prim 23 = some fun _ => p_textVR) {S : Store} {x0 : AV} {r : VerR} (h0 : rdS S x0 = some (.agg (verL r))) (hk : mayV r = true) {K : AV → Store → Prop} {d : Dm K} : SpD E 23 [x0] S K d = K (enc (bytesA (verV r))) (killL (topIdsL [x0]) S) :=
  callG h i_textVR (a := r) (by simp only [e_textVR, rdSL, h0, Option.bind_some, Option.map_some]) hk
def e_readV : List UInt8 → List AV := fun b => [enc b]
def k_readV : List UInt8 → Prop := fun b => True
def r_readV : List UInt8 → AV := fun b => .tup [.agg (verL (readV b).1), .int .i64 (readV b).2]
noncomputable def p_readV : List AV → Store → Option (AV × Store) := primG e_readV (gd k_readV r_readV)
theorem i_readV : Inj e_readV := by
  intro b1 b2 h
  simpa only [e_readV, enc_inj, rec_inj, AV.str.injEq, AV.int.injEq, AV.bool.injEq, AV.agg.injEq, AV.ptr.injEq, AV.fn.injEq, List.cons.injEq, and_true, true_and, Prod.mk.injEq] using h
theorem c_readV {E : Env} (h : E.prim 22 = some fun _ => p_readV) (b : List UInt8) {S : Store} {K : AV → Store → Prop} {d : Dm K} : SpD E 22 [enc b] S K d = K (.tup [.agg (verL (readV b).1), .int .i64 (readV b).2]) S := by
  have := callG h i_readV (a := b) (S := S) (args := [enc b]) (K := K) (d := d) (by simp only [e_readV, rdSL_cons, rdSL_nil, rdS_int, rdS_bool, rdS_str, enc_rdS, rdS_fn0, rdS_csl0, rdS_rec, rdSL_rec, rdS_agg, rdS_tup, Option.bind_some, Option.map_some]) trivial
  simpa only [r_readV, topL_cons, topL_nil, top_int, top_bool, top_str, top_csl, enc_top, top_agg, top_rec, top_fn, List.nil_append, killL_nil] using this
theorem c_readV' {E : Env} (h : E.prim 22 = some fun _ => p_readV) {S : Store} {x0 : AV} {b : List UInt8} (h0 : rdS S x0 = some (enc b)) {K : AV → Store → Prop} {d : Dm K} : SpD E 22 [x0] S K d = K (.tup [.agg (verL (readV b).1), .int .i64 (readV b).2]) (killL (topIdsL [x0]) S) :=
  callG h i_readV (a := b) (by simp only [e_readV, rdSL, h0, Option.bind_some, Option.map_some]) trivial
def e_readVR : List UInt8 → List AV := fun b => [enc b]
def k_readVR : List UInt8 → Prop := fun b => True
def r_readVR : List UInt8 → AV := fun b => .tup [.agg (verL (readV b).1), .int .i64 (readV b).2]
noncomputable def p_readVR : List AV → Store → Option (AV × Store) := primG e_readVR (gd k_readVR r_readVR)
theorem i_readVR : Inj e_readVR := by
  intro b1 b2 h
  simpa only [e_readVR, enc_inj, rec_inj, AV.str.injEq, AV.int.injEq, AV.bool.injEq, AV.agg.injEq, AV.ptr.injEq, AV.fn.injEq, List.cons.injEq, and_true, true_and, Prod.mk.injEq] using h
theorem c_readVR {E : Env} (h : E.prim 25 = some fun _ => p_readVR) (b : List UInt8) {S : Store} {K : AV → Store → Prop} {d : Dm K} : SpD E 25 [enc b] S K d = K (.tup [.agg (verL (readV b).1), .int .i64 (readV b).2]) S := by
  have := callG h i_readVR (a := b) (S := S) (args := [enc b]) (K := K) (d := d) (by simp only [e_readVR, rdSL_cons, rdSL_nil, rdS_int, rdS_bool, rdS_str, enc_rdS, rdS_fn0, rdS_csl0, rdS_rec, rdSL_rec, rdS_agg, rdS_tup, Option.bind_some, Option.map_some]) trivial
  simpa only [r_readVR, topL_cons, topL_nil, top_int, top_bool, top_str, top_csl, enc_top, top_agg, top_rec, top_fn, List.nil_append, killL_nil] using this
theorem c_readVR' {E : Env} (h : E.prim 25 = some fun _ => p_readVR) {S : Store} {x0 : AV} {b : List UInt8} (h0 : rdS S x0 = some (enc b)) {K : AV → Store → Prop} {d : Dm K} : SpD E 25 [x0] S K d = K (.tup [.agg (verL (readV b).1), .int .i64 (readV b).2]) (killL (topIdsL [x0]) S) :=
  callG h i_readVR (a := b) (by simp only [e_readVR, rdSL, h0, Option.bind_some, Option.map_some]) trivial
def e_sameV : VerR × VerR → List AV := fun | (a, b) => [.agg (verL a), .agg (verL b)]
def k_sameV : VerR × VerR → Prop := fun | (a, b) => longV a
def r_sameV : VerR × VerR → AV := fun | (a, b) => .bool (decide (a = b))
noncomputable def p_sameV : List AV → Store → Option (AV × Store) := primS e_sameV (gd k_sameV r_sameV)
theorem i_sameV : Inj e_sameV := by
  rintro ⟨a1, b1⟩ ⟨a2, b2⟩ h
  simpa only [e_sameV, enc_inj, rec_inj, AV.str.injEq, AV.int.injEq, AV.bool.injEq, AV.agg.injEq, AV.ptr.injEq, AV.fn.injEq, List.cons.injEq, and_true, true_and, Prod.mk.injEq, VerR.ext_iff, and_assoc] using h
theorem c_sameV {E : Env} (h : E.prim 24 = some fun _ => p_sameV) (a : VerR) (b : VerR) (hk : longV a) {S : Store} {K : AV → Store → Prop} {d : Dm K} : SpD E 24 [.agg (verL a), .agg (verL b)] S K d = K (.bool (decide (a = b))) S :=
  callS h i_sameV (a := (a, b)) (by simp only [e_sameV, rdSL_cons, rdSL_nil, rdS_int, rdS_bool, rdS_str, enc_rdS, rdS_fn0, rdS_csl0, rdS_rec, rdSL_rec, rdS_agg, rdS_tup, Option.bind_some, Option.map_some]) hk
theorem c_sameV' {E : Env} (h : E.prim 24 = some fun _ => p_sameV) {S : Store} {x0 x1 : AV} {a : VerR} {b : VerR} (h0 : rdS S x0 = some (.agg (verL a))) (h1 : rdS S x1 = some (.agg (verL b))) (hk : longV a) {K : AV → Store → Prop} {d : Dm K} : SpD E 24 [x0, x1] S K d = K (.bool (decide (a = b))) S :=
  callS h i_sameV (a := (a, b)) (by simp only [e_sameV, rdSL, h0, h1, Option.bind_some, Option.map_some]) hk
def e_recordVersion : VerR × (List UInt8) → List AV := fun | (r, b) => [.agg (verL r), enc b]
def k_recordVersion : VerR × (List UInt8) → Prop := fun | (r, b) => b.length ≤ 9223372036854775807 ∧ r.digest.length ≤ 9223372036854775807 ∧ r.lock.length ≤ 9223372036854775807 ∧ r.body.length ≤ 9223372036854775807
def r_recordVersion : VerR × (List UInt8) → AV := fun | (r, b) => .bool true
noncomputable def p_recordVersion : List AV → Store → Option (AV × Store) := primS e_recordVersion (gd k_recordVersion r_recordVersion)
theorem i_recordVersion : Inj e_recordVersion := by
  rintro ⟨r1, b1⟩ ⟨r2, b2⟩ h
  simpa only [e_recordVersion, enc_inj, rec_inj, AV.str.injEq, AV.int.injEq, AV.bool.injEq, AV.agg.injEq, AV.ptr.injEq, AV.fn.injEq, List.cons.injEq, and_true, true_and, Prod.mk.injEq, VerR.ext_iff, and_assoc] using h
theorem c_recordVersion {E : Env} (h : E.prim 5 = some fun _ => p_recordVersion) (r : VerR) (b : List UInt8) (hk : b.length ≤ 9223372036854775807 ∧ r.digest.length ≤ 9223372036854775807 ∧ r.lock.length ≤ 9223372036854775807 ∧ r.body.length ≤ 9223372036854775807) {S : Store} {K : AV → Store → Prop} {d : Dm K} : SpD E 5 [.agg (verL r), enc b] S K d = K (.bool true) S :=
  callS h i_recordVersion (a := (r, b)) (by simp only [e_recordVersion, rdSL_cons, rdSL_nil, rdS_int, rdS_bool, rdS_str, enc_rdS, rdS_fn0, rdS_csl0, rdS_rec, rdSL_rec, rdS_agg, rdS_tup, Option.bind_some, Option.map_some]) hk
theorem c_recordVersion' {E : Env} (h : E.prim 5 = some fun _ => p_recordVersion) {S : Store} {x0 x1 : AV} {r : VerR} {b : List UInt8} (h0 : rdS S x0 = some (.agg (verL r))) (h1 : rdS S x1 = some (enc b)) (hk : b.length ≤ 9223372036854775807 ∧ r.digest.length ≤ 9223372036854775807 ∧ r.lock.length ≤ 9223372036854775807 ∧ r.body.length ≤ 9223372036854775807) {K : AV → Store → Prop} {d : Dm K} : SpD E 5 [x0, x1] S K d = K (.bool true) S :=
  callS h i_recordVersion (a := (r, b)) (by simp only [e_recordVersion, rdSL, h0, h1, Option.bind_some, Option.map_some]) hk

theorem ok_seq35 {E : Env} (hp : E.prim 69 = none) (hf : E.F 69 = some F69) : OkS E 69 e_seq35 (gd k_seq35 r_seq35) := by
  refine OkS.code hp hf (fun _ => rfl) fun n _ => ?_
  cases y : decide (1 ≤ n)
  · have e : seqOk n = false := decide_eq_false (by have := of_decide_eq_false y; omega)
    simp -dsimp only [go_sem, F69, e_seq35, r_seq35, y, e]
  · have e : seqOk n = decide (n ≤ 1099511627776) := decide_eq_decide.2 (by have := of_decide_eq_true y; omega)
    simp -dsimp only [go_sem, F69, e_seq35, r_seq35, y, e]
theorem ok_long35 {E : Env} (hp : E.prim 70 = none) (hf : E.F 70 = some F70) : OkS E 70 e_long35 (gd k_long35 r_long35) := by
  refine OkS.code hp hf (fun _ => rfl) fun ⟨b, m⟩ _ => ?_
  cases y : decide (1 ≤ (b.length : Int))
  · have e : longOk b m = false := decide_eq_false (by have := of_decide_eq_false y; omega)
    simp -dsimp only [go_sem, F70, e_long35, r_long35, y, e]
  · have e : longOk b m = decide ((b.length : Int) ≤ m) := decide_eq_decide.2 (by have := of_decide_eq_true y; omega)
    simp -dsimp only [go_sem, F70, e_long35, r_long35, y, e]
theorem ok_inR35 {E : Env} (hp : E.prim 53 = none) (hf : E.F 53 = some F53) : OkS E 53 e_inR35 (gd k_inR35 r_inR35) := by
  refine OkS.code hp hf (fun _ => rfl) fun ⟨n, a, c⟩ _ => ?_
  cases y : decide (a ≤ n)
  · have e : decide (a ≤ n ∧ n ≤ c) = false := decide_eq_false (by have := of_decide_eq_false y; omega)
    simp -dsimp only [go_sem, F53, e_inR35, r_inR35, y, e]
  · have e : decide (a ≤ n ∧ n ≤ c) = decide (n ≤ c) := decide_eq_decide.2 (by have := of_decide_eq_true y; omega)
    simp -dsimp only [go_sem, F53, e_inR35, r_inR35, y, e]
theorem ok_text35 {E : Env} (hp : E.prim 51 = none) (hf : E.F 51 = some F51) (h1 : E.prim 42 = some fun _ => p_raw02) : OkG E 51 e_text35 (gd k_text35 r_text35) := by
  refine OkG.code hp hf (fun _ => rfl) fun s S hk => ?_
  have hb : s2bfA (.str s) = some (enc s) := by rw [s2bf_str s hk, s2b_enc]
  simp -dsimp only [go_sem, F51, e_text35, r_text35, hb, c_raw02 h1]
  exact Conv.good (List.prefix_append _ _) (fun i h => by simp [topIds, topIdsL, enc_top] at h) (rd_val _ _ _ _ [] (enc_rdS _ _) (enc_rdS _ _))
theorem ok_textR35 {E : Env} (hp : E.prim 55 = none) (hf : E.F 55 = some F55) (h1 : E.prim 45 = some fun _ => p_rawR28) : OkG E 55 e_textR35 (gd k_textR35 r_textR35) := by
  refine OkG.code hp hf (fun _ => rfl) fun s S hk => ?_
  have hb : s2bfA (.str s) = some (enc s) := by rw [s2bf_str s hk, s2b_enc]
  simp -dsimp only [go_sem, F55, e_textR35, r_textR35, hb, c_rawR28 h1]
  exact Conv.good (List.prefix_append _ _) (fun i h => by simp [topIds, topIdsL, enc_top] at h) (rd_val _ _ _ _ [] (enc_rdS _ _) (enc_rdS _ _))
theorem ok_mayV {E : Env} (hp : E.prim 50 = none) (hf : E.F 50 = some F50) (h1 : E.prim 68 = some fun _ => p_name) (h2 : E.prim 69 = some fun _ => p_seq35) (h3 : E.prim 70 = some fun _ => p_long35) : OkS E 50 e_mayV (gd k_mayV r_mayV) := by
  refine OkS.code hp hf (fun _ => rfl) fun r hk => ?_
  obtain ⟨⟨l1, l2, l3⟩, l4, l5, l6⟩ := (hk : longV r)
  have q1 := fun (S : Store) (K : AV → Store → Prop) (d : Dm K) => c_name h1 r.folder (by omega) (S := S) (K := K) (d := d)
  have q2 := fun (S : Store) (K : AV → Store → Prop) (d : Dm K) => c_name h1 r.item (by omega) (S := S) (K := K) (d := d)
  have q3 := fun (S : Store) (K : AV → Store → Prop) (d : Dm K) => c_name h1 r.by' (by omega) (S := S) (K := K) (d := d)
  have q4 := fun (S : Store) (K : AV → Store → Prop) (d : Dm K) => c_long35 h3 r.digest 64 (by omega) (S := S) (K := K) (d := d)
  have q5 := fun (S : Store) (K : AV → Store → Prop) (d : Dm K) => c_long35 h3 r.lock 100 (by omega) (S := S) (K := K) (d := d)
  have q6 := fun (S : Store) (K : AV → Store → Prop) (d : Dm K) => c_long35 h3 r.body 600 (by omega) (S := S) (K := K) (d := d)
  have w1 : IntKind.i64.wrap ((r.lock.length : Int) + (r.body.length : Int)) = (r.lock.length : Int) + (r.body.length : Int) := wrap64 (by omega) (by omega)
  cases x1 : nameOk r.folder
  · have e : mayV r = false := by simp [mayV, x1]
    simp -dsimp only [go_sem, F50, e_mayV, r_mayV, q1, q2, q3, q4, q5, q6, c_seq35 h2, w1, x1, e]
  cases x2 : nameOk r.item
  · have e : mayV r = false := by simp [mayV, x1, x2]
    simp -dsimp only [go_sem, F50, e_mayV, r_mayV, q1, q2, q3, q4, q5, q6, c_seq35 h2, w1, x1, x2, e]
  cases x3 : nameOk r.by'
  · have e : mayV r = false := by simp [mayV, x1, x2, x3]
    simp -dsimp only [go_sem, F50, e_mayV, r_mayV, q1, q2, q3, q4, q5, q6, c_seq35 h2, w1, x1, x2, x3, e]
  cases z1 : decide (r.number < 1)
  rotate_left
  · have en : numOk r.number = false := decide_eq_false (by have := of_decide_eq_true z1; omega)
    have e : mayV r = false := by simp [mayV, x1, x2, x3, en]
    simp -dsimp only [go_sem, F50, e_mayV, r_mayV, q1, q2, q3, q4, q5, q6, c_seq35 h2, w1, x1, x2, x3, z1, e]
  cases z2 : decide ((256 : Int) < r.number)
  rotate_left
  · have en : numOk r.number = false := decide_eq_false (by have := of_decide_eq_true z2; omega)
    have e : mayV r = false := by simp [mayV, x1, x2, x3, en]
    simp -dsimp only [go_sem, F50, e_mayV, r_mayV, q1, q2, q3, q4, q5, q6, c_seq35 h2, w1, x1, x2, x3, z1, z2, e]
  have en : numOk r.number = true := decide_eq_true (by have := of_decide_eq_false z1; have := of_decide_eq_false z2; omega)
  cases x4 : seqOk r.epoch
  · have e : mayV r = false := by simp [mayV, x1, x2, x3, x4, en]
    simp -dsimp only [go_sem, F50, e_mayV, r_mayV, q1, q2, q3, q4, q5, q6, c_seq35 h2, w1, x1, x2, x3, z1, z2, x4, e]
  cases x5 : seqOk r.seq
  · have e : mayV r = false := by simp [mayV, x1, x2, x3, x4, x5, en]
    simp -dsimp only [go_sem, F50, e_mayV, r_mayV, q1, q2, q3, q4, q5, q6, c_seq35 h2, w1, x1, x2, x3, z1, z2, x4, x5, e]
  cases x6 : longOk r.digest 64
  · have e : mayV r = false := by simp [mayV, x1, x2, x3, x4, x5, x6, en]
    simp -dsimp only [go_sem, F50, e_mayV, r_mayV, q1, q2, q3, q4, q5, q6, c_seq35 h2, w1, x1, x2, x3, z1, z2, x4, x5, x6, e]
  cases xg : r.gone
  · cases x7 : longOk r.lock 100
    · have e : mayV r = false := by simp [mayV, restOk, x1, x2, x3, x4, x5, x6, en, xg, x7]
      simp -dsimp only [go_sem, F50, e_mayV, r_mayV, q1, q2, q3, q4, q5, q6, c_seq35 h2, w1, x1, x2, x3, z1, z2, x4, x5, x6, xg, x7, e]
    · have e : mayV r = longOk r.body 600 := by simp [mayV, restOk, x1, x2, x3, x4, x5, x6, en, xg, x7]
      simp -dsimp only [go_sem, F50, e_mayV, r_mayV, q1, q2, q3, q4, q5, q6, c_seq35 h2, w1, x1, x2, x3, z1, z2, x4, x5, x6, xg, x7, e]
  · have e : mayV r = decide ((r.lock.length : Int) + (r.body.length : Int) = 0) := by
      have : goneOk r = decide ((r.lock.length : Int) + (r.body.length : Int) = 0) := by
        unfold goneOk; rw [← Bool.decide_and]; exact decide_eq_decide.2 (by omega)
      rw [← this]; simp [mayV, x1, x2, x3, x4, x5, x6, en, xg]
    simp -dsimp only [go_sem, F50, e_mayV, r_mayV, q1, q2, q3, q4, q5, q6, c_seq35 h2, w1, x1, x2, x3, z1, z2, x4, x5, x6, xg, e]
theorem ok_mayVR {E : Env} (hp : E.prim 21 = none) (hf : E.F 21 = some F21) (h1 : E.prim 52 = some fun _ => p_nameR) (h2 : E.prim 53 = some fun _ => p_inR35) : OkS E 21 e_mayVR (gd k_mayVR r_mayVR) := by
  refine OkS.code hp hf (fun _ => rfl) fun r hk => ?_
  obtain ⟨⟨l1, l2, l3⟩, l4, l5, l6⟩ := (hk : longV r)
  have q1 := fun (S : Store) (K : AV → Store → Prop) (d : Dm K) => c_nameR h1 r.folder (by omega) (S := S) (K := K) (d := d)
  have q2 := fun (S : Store) (K : AV → Store → Prop) (d : Dm K) => c_nameR h1 r.item (by omega) (S := S) (K := K) (d := d)
  have q3 := fun (S : Store) (K : AV → Store → Prop) (d : Dm K) => c_nameR h1 r.by' (by omega) (S := S) (K := K) (d := d)
  cases x1 : nameOk r.folder
  · have e : mayV r = false := by simp only [mayV, x1, Bool.false_and, Bool.true_and]
    simp -dsimp only [go_sem, F21, e_mayVR, r_mayVR, q1, q2, q3, c_inR35 h2, x1, e]
  cases x2 : nameOk r.item
  · have e : mayV r = false := by simp only [mayV, x1, x2, Bool.false_and, Bool.true_and]
    simp -dsimp only [go_sem, F21, e_mayVR, r_mayVR, q1, q2, q3, c_inR35 h2, x1, x2, e]
  cases x3 : nameOk r.by'
  · have e : mayV r = false := by simp only [mayV, x1, x2, x3, Bool.false_and, Bool.true_and]
    simp -dsimp only [go_sem, F21, e_mayVR, r_mayVR, q1, q2, q3, c_inR35 h2, x1, x2, x3, e]
  have eu4 : numOk r.number = decide (1 ≤ r.number ∧ r.number ≤ 256) := rfl
  cases u4 : decide (1 ≤ r.number ∧ r.number ≤ 256)
  · have e : mayV r = false := by simp only [mayV, eu4, x1, x2, x3, u4, Bool.false_and, Bool.true_and]
    simp -dsimp only [go_sem, F21, e_mayVR, r_mayVR, q1, q2, q3, c_inR35 h2, x1, x2, x3, u4, e]
  have eu5 : seqOk r.epoch = decide (1 ≤ r.epoch ∧ r.epoch ≤ 1099511627776) := rfl
  cases u5 : decide (1 ≤ r.epoch ∧ r.epoch ≤ 1099511627776)
  · have e : mayV r = false := by simp only [mayV, eu4, eu5, x1, x2, x3, u4, u5, Bool.false_and, Bool.true_and]
    simp -dsimp only [go_sem, F21, e_mayVR, r_mayVR, q1, q2, q3, c_inR35 h2, x1, x2, x3, u4, u5, e]
  have eu6 : seqOk r.seq = decide (1 ≤ r.seq ∧ r.seq ≤ 1099511627776) := rfl
  cases u6 : decide (1 ≤ r.seq ∧ r.seq ≤ 1099511627776)
  · have e : mayV r = false := by simp only [mayV, eu4, eu5, eu6, x1, x2, x3, u4, u5, u6, Bool.false_and, Bool.true_and]
    simp -dsimp only [go_sem, F21, e_mayVR, r_mayVR, q1, q2, q3, c_inR35 h2, x1, x2, x3, u4, u5, u6, e]
  have eu7 : longOk r.digest 64 = decide (1 ≤ (r.digest.length : Int) ∧ (r.digest.length : Int) ≤ 64) := rfl
  cases u7 : decide (1 ≤ (r.digest.length : Int) ∧ (r.digest.length : Int) ≤ 64)
  · have e : mayV r = false := by simp only [mayV, eu4, eu5, eu6, eu7, x1, x2, x3, u4, u5, u6, u7, Bool.false_and, Bool.true_and]
    simp -dsimp only [go_sem, F21, e_mayVR, r_mayVR, q1, q2, q3, c_inR35 h2, x1, x2, x3, u4, u5, u6, u7, e]
  have eu8 : longOk r.lock 100 = decide (1 ≤ (r.lock.length : Int) ∧ (r.lock.length : Int) ≤ 100) := rfl
  have eu9 : longOk r.body 600 = decide (1 ≤ (r.body.length : Int) ∧ (r.body.length : Int) ≤ 600) := rfl
  cases xg : r.gone
  · cases u8 : decide (1 ≤ (r.lock.length : Int) ∧ (r.lock.length : Int) ≤ 100)
    · have e : mayV r = false := by simp only [mayV, restOk, eu4, eu5, eu6, eu7, eu8, x1, x2, x3, u4, u5, u6, u7, u8, xg, Bool.false_and, Bool.true_and, Bool.false_eq_true, if_false]
      simp -dsimp only [go_sem, F21, e_mayVR, r_mayVR, q1, q2, q3, c_inR35 h2, x1, x2, x3, u4, u5, u6, u7, xg, u8, e]
    · have e : mayV r = decide (1 ≤ (r.body.length : Int) ∧ (r.body.length : Int) ≤ 600) := by simp only [mayV, restOk, eu4, eu5, eu6, eu7, eu8, eu9, x1, x2, x3, u4, u5, u6, u7, u8, xg, Bool.false_and, Bool.true_and, Bool.false_eq_true, if_false]
      simp -dsimp only [go_sem, F21, e_mayVR, r_mayVR, q1, q2, q3, c_inR35 h2, x1, x2, x3, u4, u5, u6, u7, xg, u8, e]
  · have eb : mayV r = goneOk r := by simp only [mayV, eu4, eu5, eu6, eu7, x1, x2, x3, u4, u5, u6, u7, xg, Bool.true_and, if_true]
    cases v1 : decide ((r.lock.length : Int) = 0)
    · have e : mayV r = false := by rw [eb, goneOk, decide_eq_false (p := r.lock.length = 0) (by have := of_decide_eq_false v1; omega), Bool.false_and]
      simp -dsimp only [go_sem, F21, e_mayVR, r_mayVR, q1, q2, q3, c_inR35 h2, x1, x2, x3, u4, u5, u6, u7, xg, v1, e]
    · have e : mayV r = decide ((r.body.length : Int) = 0) := by
        rw [eb, goneOk, decide_eq_true (p := r.lock.length = 0) (by have := of_decide_eq_true v1; omega), Bool.true_and]; exact decide_eq_decide.2 (by omega)
      simp -dsimp only [go_sem, F21, e_mayVR, r_mayVR, q1, q2, q3, c_inR35 h2, x1, x2, x3, u4, u5, u6, u7, xg, v1, e]
end Go.Proofs.YtaajlbbooneiiaaDoor.Avm
set_option linter.unusedVariables false
set_option linter.unusedSimpArgs false
set_option maxRecDepth 10000
namespace Go.Proofs.YtaajlbbooneiiaaDoor.Avm

theorem right_11 {l : List Val} (hl : l.length = 11) (h : ∀ w, w ∈ l → pureA w = true ∧ deepA w ≤ 2 ∧ (bytesA w).length ≤ 1000) : rightV (listV l) := by
  refine ⟨pure_list (by omega) fun w hw => (h w hw).1, Nat.le_trans (deep_list (d := 2) fun w hw => (h w hw).2.1) (by omega), ?_⟩
  have := bytesAL_le (c := 1000) fun w hw => (h w hw).2.2
  rw [hl] at this
  rw [len_list (by omega)]; omega
theorem good_raw {b : List UInt8} (h : b.length ≤ 900) : pureA (rawV b) = true ∧ deepA (rawV b) ≤ 2 ∧ (bytesA (rawV b)).length ≤ 1000 :=
  ⟨pure_raw (by omega), by rw [deep_raw]; omega, by rw [len_raw (by omega)]; omega⟩
theorem good_num {n : Int} (h0 : 0 ≤ n) (h1 : n ≤ 4611686018427387904) : pureA (numV n) = true ∧ deepA (numV n) ≤ 2 ∧ (bytesA (numV n)).length ≤ 1000 :=
  ⟨pure_num h0 h1, by rw [deep_num]; omega, by have := len_num n; omega⟩
structure MayV (r : VerR) : Prop where
  n1 : r.folder.length ≤ 12
  n2 : r.item.length ≤ 12
  n3 : r.by'.length ≤ 12
  num : 1 ≤ r.number ∧ r.number ≤ 256
  epoch : 1 ≤ r.epoch ∧ r.epoch ≤ 1099511627776
  seq : 1 ≤ r.seq ∧ r.seq ≤ 1099511627776
  dig : r.digest.length ≤ 64
  lock : r.lock.length ≤ 100
  body : r.body.length ≤ 600
theorem mayV_get {r : VerR} (h : mayV r = true) : MayV r := by
  simp only [mayV, Bool.and_eq_true] at h
  obtain ⟨a1, a2, a3, a4, a5, a6, a7, a8⟩ := h
  have b7 := of_decide_eq_true a7
  have b8 : r.lock.length ≤ 100 ∧ r.body.length ≤ 600 := by
    split at a8
    · simp only [goneOk, Bool.and_eq_true, decide_eq_true_eq] at a8; omega
    · simp only [restOk, longOk, Bool.and_eq_true, decide_eq_true_eq] at a8; omega
  exact ⟨name_len a1, name_len a2, name_len a3, of_decide_eq_true a4, of_decide_eq_true a5, of_decide_eq_true a6, by omega, b8.1, b8.2⟩
theorem right_ver {r : VerR} (h : mayV r = true) : rightV (verV r) := by
  obtain ⟨n1, n2, n3, a4, a5, a6, a7, a8, a9⟩ := mayV_get h
  refine right_11 rfl fun w hw => ?_
  simp only [verVs, List.mem_cons, List.not_mem_nil, or_false] at hw
  rcases hw with rfl | rfl | rfl | rfl | rfl | rfl | rfl | rfl | rfl | rfl | rfl
  · exact good_raw (by decide)
  · exact good_raw (by omega)
  · exact good_raw (by omega)
  · exact good_num (by omega) (by omega)
  · exact good_num (by omega) (by omega)
  · exact good_num (by omega) (by omega)
  · exact good_raw (by omega)
  · unfold goneV; split <;> exact good_num (by omega) (by omega)
  · exact good_raw (by omega)
  · exact good_raw (by omega)
  · exact good_raw (by omega)
theorem enc_verG (r : VerR) {g : Int} (h : goneV r = g) : AV.csl [.int .i64 2, .int .i64 0, enc markV, enc ([] : List Val), .int .i64 2, .int .i64 0, enc r.folder, enc ([] : List Val), .int .i64 2, .int .i64 0, enc r.item, enc ([] : List Val),
        .int .i64 1, .int .i64 r.number, enc ([] : List UInt8), enc ([] : List Val), .int .i64 1, .int .i64 r.epoch, enc ([] : List UInt8), enc ([] : List Val), .int .i64 1, .int .i64 r.seq, enc ([] : List UInt8), enc ([] : List Val),
        .int .i64 2, .int .i64 0, enc r.digest, enc ([] : List Val), .int .i64 1, .int .i64 g, enc ([] : List UInt8), enc ([] : List Val), .int .i64 2, .int .i64 0, enc r.lock, enc ([] : List Val), .int .i64 2, .int .i64 0, enc r.body, enc ([] : List Val),
        .int .i64 2, .int .i64 0, enc r.by', enc ([] : List Val)] 11 = enc (verVs r) := by
  subst h
  rw [enc, enc]
  simp only [verVs, cl_cons, cl_nil, c_val, valL, rawV, numV, k_mk, n_mk, b_mk, l_mk, List.length_cons, List.length_nil]
  rfl
theorem ok_textV {E : Env} (hp : E.prim 20 = none) (hf : E.F 20 = some F20) (h1 : E.prim 50 = some fun _ => p_mayV) (h2 : E.prim 40 = some fun _ => p_of02) (h3 : E.prim 51 = some fun _ => p_text35)
    (h4 : E.prim 41 = some fun _ => p_num02) (h5 : E.prim 42 = some fun _ => p_raw02) (h7 : E.prim 43 = some fun _ => p_encode) : OkG E 20 e_textV (gd k_textV r_textV) := by
  refine OkG.code hp hf (fun _ => rfl) fun r S hk => ?_
  have cm : ∀ (S : Store) (K : AV → Store → Prop) (d : Dm K), SpD E 50 [.agg (verL r)] S K d = K (.bool (mayV r)) S := fun _ _ _ => c_mayV h1 r hk
  cases y1 : mayV r
  · have ht : textVP r = ([], 2) := if_neg (by simp [y1])
    simp -dsimp only [go_sem, F20, e_textV, r_textV, cm, y1, ht]
    exact conv_pair (List.prefix_append _ _) (fun i h => by simp [topIds] at h) rfl
  have ht : textVP r = (bytesA (verV r), 0) := if_pos y1
  have he := encode_ok (right_ver y1)
  obtain ⟨n1, n2, n3, a4, a5, a6, a7, a8, a9⟩ := mayV_get y1
  have t0 : ∀ (T : Store) (K : AV → Store → Prop) (q : Dm K), SpD E 51 [.str [118, 101, 114, 115, 105, 111, 110]] T K q = K (.agg (valL (rawV markV))) T := fun T K q => c_text35 h3 markV (by decide)
  have t1 := fun (T : Store) (K : AV → Store → Prop) (q : Dm K) => c_text35 h3 r.folder (by omega) (S := T) (K := K) (d := q)
  have t2 := fun (T : Store) (K : AV → Store → Prop) (q : Dm K) => c_text35 h3 r.item (by omega) (S := T) (K := K) (d := q)
  have t3 := fun (T : Store) (K : AV → Store → Prop) (q : Dm K) => c_text35 h3 r.by' (by omega) (S := T) (K := K) (d := q)
  have co := fun (T : Store) (K : AV → Store → Prop) (q : Dm K) => c_of02 h2 (enc (verVs r)) rfl (S := T) (K := K) (d := q)
  have ce : ∀ (T : Store) (K : AV → Store → Prop) (q : Dm K), SpD E 43 [.agg [.int .i64 3, .int .i64 0, enc ([] : List UInt8), enc (verVs r)]] T K q = K (.tup [enc (bytesA (verV r)), .int .i64 0]) T := fun T K q => by
    have := c_encode h7 (verV r) (S := T) (K := K) (d := q)
    rw [he] at this; exact this
  simp -dsimp only [go_sem, F20, e_textV, r_textV, cm, y1, ht]
  refine cnd_intro (fun yg => ?_) (fun yg => ?_)
  · have em := enc_verG r (g := 1) (by rw [goneV, if_pos yg])
    simp -dsimp only [go_sem]
    refine ExF.intro ?_
    simp -dsimp only [go_sem, t0, t1, t2, t3, c_num02 h4, c_raw02 h5, valL]
    rw [em]
    simp -dsimp only [go_sem, co, ce, F20, r_textV, ht]
    refine ⟨conv_pair (List.prefix_append _ _) (fun i h => by simp [enc_top] at h) (enc_rdS _ _), ?_⟩
    (repeat' (first | exact fl_ld rfl rfl rfl rfl (flLd_n _ _ _ _ _ _ (by simp -dsimp only [go_sem])) | exact fl_b2s rfl rfl rfl rfl (by simp -dsimp only [go_sem]) | apply And.intro))
  · have em := enc_verG r (g := 0) (by rw [goneV, if_neg (by rw [yg]; decide)])
    simp -dsimp only [go_sem]
    refine ExF.intro ?_
    simp -dsimp only [go_sem, t0, t1, t2, t3, c_num02 h4, c_raw02 h5, valL]
    rw [em]
    simp -dsimp only [go_sem, co, ce, F20, r_textV, ht]
    refine ⟨conv_pair (List.prefix_append _ _) (fun i h => by simp [enc_top] at h) (enc_rdS _ _), ?_⟩
    (repeat' (first | exact fl_ld rfl rfl rfl rfl (flLd_n _ _ _ _ _ _ (by simp -dsimp only [go_sem])) | exact fl_b2s rfl rfl rfl rfl (by simp -dsimp only [go_sem]) | apply And.intro))
end Go.Proofs.YtaajlbbooneiiaaDoor.Avm
set_option linter.unusedVariables false
set_option linter.unusedSimpArgs false
set_option maxRecDepth 10000
namespace Go.Proofs.YtaajlbbooneiiaaDoor.Avm

theorem ok_textVR {E : Env} (hp : E.prim 23 = none) (hf : E.F 23 = some F23) (h2 : E.prim 47 = some fun _ => p_ofR28) (h3 : E.prim 55 = some fun _ => p_textR35)
    (h4 : E.prim 44 = some fun _ => p_numR28) (h5 : E.prim 45 = some fun _ => p_rawR28) (h7 : E.prim 46 = some fun _ => p_bytesR 17) : OkG E 23 e_textVR (gd k_textVR r_textVR) := by
  refine OkG.code hp hf (fun _ => rfl) fun r S hk => ?_
  have y1 : mayV r = true := hk
  have hr := right_ver y1
  obtain ⟨n1, n2, n3, a4, a5, a6, a7, a8, a9⟩ := mayV_get y1
  have t0 : ∀ (T : Store) (K : AV → Store → Prop) (q : Dm K), SpD E 55 [.str [118, 101, 114, 115, 105, 111, 110]] T K q = K (.agg (valL (rawV markV))) T := fun T K q => c_textR35 h3 markV (by decide)
  have t1 := fun (T : Store) (K : AV → Store → Prop) (q : Dm K) => c_textR35 h3 r.folder (by omega) (S := T) (K := K) (d := q)
  have t2 := fun (T : Store) (K : AV → Store → Prop) (q : Dm K) => c_textR35 h3 r.item (by omega) (S := T) (K := K) (d := q)
  have t3 := fun (T : Store) (K : AV → Store → Prop) (q : Dm K) => c_textR35 h3 r.by' (by omega) (S := T) (K := K) (d := q)
  have co : ∀ (T : Store) (K : AV → Store → Prop) (q : Dm K), SpD E 47 [enc (verVs r)] T K q = K (.agg (valL (verV r))) T := fun T K q => c_ofR28 h2 _
  have cb := fun (T : Store) (K : AV → Store → Prop) (q : Dm K) => c_bytesR h7 (verV r) ⟨hr.1, by have := hr.2.1; omega, by have := hr.2.2; omega⟩ (S := T) (K := K) (d := q)
  simp -dsimp only [go_sem, F23, e_textVR, r_textVR]
  refine cnd_intro (fun yg => ?_) (fun yg => ?_)
  · have em := enc_verG r (g := 1) (by rw [goneV, if_pos yg])
    simp -dsimp only [go_sem]
    refine ExF.intro ?_
    simp -dsimp only [go_sem, t0, t1, t2, t3, c_numR28 h4, c_rawR28 h5, valL]
    rw [em]
    simp -dsimp only [go_sem, co]
    simp -dsimp only [go_sem, cb, F23, r_textVR]
    refine ⟨Conv.good (List.prefix_append _ _) (fun i h => by simp [enc_top] at h) (enc_rdS _ _), ?_⟩
    (repeat' (first | exact fl_ld rfl rfl rfl rfl (flLd_n _ _ _ _ _ _ (by simp -dsimp only [go_sem])) | exact fl_b2s rfl rfl rfl rfl (by simp -dsimp only [go_sem]) | apply And.intro))
  · have em := enc_verG r (g := 0) (by rw [goneV, if_neg (by rw [yg]; decide)])
    simp -dsimp only [go_sem]
    refine ExF.intro ?_
    simp -dsimp only [go_sem, t0, t1, t2, t3, c_numR28 h4, c_rawR28 h5, valL]
    rw [em]
    simp -dsimp only [go_sem, co]
    simp -dsimp only [go_sem, cb, F23, r_textVR]
    refine ⟨Conv.good (List.prefix_append _ _) (fun i h => by simp [enc_top] at h) (enc_rdS _ _), ?_⟩
    (repeat' (first | exact fl_ld rfl rfl rfl rfl (flLd_n _ _ _ _ _ _ (by simp -dsimp only [go_sem])) | exact fl_b2s rfl rfl rfl rfl (by simp -dsimp only [go_sem]) | apply And.intro))
theorem ok_sameV {E : Env} (hp : E.prim 24 = none) (hf : E.F 24 = some F24) (h1 : E.prim 10 = some fun _ => p_bsame) : OkS E 24 e_sameV (gd k_sameV r_sameV) := by
  refine OkS.code hp hf (fun _ => rfl) fun ⟨a, b⟩ la => ?_
  have la : longV a := la
  have q1 := fun (S : Store) (K : AV → Store → Prop) (q : Dm K) => c_bsame h1 a.digest b.digest (by have := la.2.1; omega) (S := S) (K := K) (d := q)
  have q2 := fun (S : Store) (K : AV → Store → Prop) (q : Dm K) => c_bsame h1 a.lock b.lock (by have := la.2.2.1; omega) (S := S) (K := K) (d := q)
  have q3 := fun (S : Store) (K : AV → Store → Prop) (q : Dm K) => c_bsame h1 a.body b.body (by have := la.2.2.2; omega) (S := S) (K := K) (d := q)
  have e : decide (a = b) = (decide (a.folder = b.folder) && (decide (a.item = b.item) && (decide (a.number = b.number) && (decide (a.epoch = b.epoch) && (decide (a.seq = b.seq) && (decide (a.gone = b.gone) && (decide (a.by' = b.by') && (decide (a.digest = b.digest) && (decide (a.lock = b.lock) && decide (a.body = b.body)))))))))) := by
    simp only [← Bool.decide_and]
    refine decide_eq_decide.2 ?_
    rw [VerR.ext_iff]
    constructor
    · rintro ⟨h1, h2, h3, h4, h5, h6, h7, h8, h9, h10⟩; exact ⟨h1, h2, h3, h4, h5, h7, h10, h6, h8, h9⟩
    · rintro ⟨h1, h2, h3, h4, h5, h7, h10, h6, h8, h9⟩; exact ⟨h1, h2, h3, h4, h5, h6, h7, h8, h9, h10⟩
  have y7' : (a.gone != b.gone) = !decide (a.gone = b.gone) := by cases a.gone <;> cases b.gone <;> rfl
  cases y1 : decide (a.folder = b.folder)
  · simp -dsimp only [go_sem, F24, e_sameV, r_sameV, e, y1, Bool.false_and, Bool.true_and]
  cases y2 : decide (a.item = b.item)
  · simp -dsimp only [go_sem, F24, e_sameV, r_sameV, e, y1, y2, Bool.false_and, Bool.true_and]
  cases y3 : decide (a.number = b.number)
  · simp -dsimp only [go_sem, F24, e_sameV, r_sameV, e, y1, y2, y3, Bool.false_and, Bool.true_and]
  cases y4 : decide (a.epoch = b.epoch)
  · simp -dsimp only [go_sem, F24, e_sameV, r_sameV, e, y1, y2, y3, y4, Bool.false_and, Bool.true_and]
  cases y5 : decide (a.seq = b.seq)
  · simp -dsimp only [go_sem, F24, e_sameV, r_sameV, e, y1, y2, y3, y4, y5, Bool.false_and, Bool.true_and]
  cases y6 : decide (a.gone = b.gone)
  · simp -dsimp only [go_sem, F24, e_sameV, r_sameV, e, y1, y2, y3, y4, y5, y6, y7', Bool.false_and, Bool.true_and]
  cases y8 : decide (a.by' = b.by')
  · simp -dsimp only [go_sem, F24, e_sameV, r_sameV, e, y1, y2, y3, y4, y5, y6, y7', y8, Bool.false_and, Bool.true_and]
  cases y9 : decide (a.digest = b.digest)
  · simp -dsimp only [go_sem, F24, e_sameV, r_sameV, e, q1, q2, q3, y1, y2, y3, y4, y5, y6, y7', y8, y9, Bool.false_and, Bool.true_and]
  cases y10 : decide (a.lock = b.lock)
  · simp -dsimp only [go_sem, F24, e_sameV, r_sameV, e, q1, q2, q3, y1, y2, y3, y4, y5, y6, y7', y8, y9, y10, Bool.false_and, Bool.true_and]
  · simp -dsimp only [go_sem, F24, e_sameV, r_sameV, e, q1, q2, q3, y1, y2, y3, y4, y5, y6, y7', y8, y9, y10, Bool.false_and, Bool.true_and]

/-! ### reading -/
theorem rd_ver (T : Store) {a b y : Str} {n e s : Int} {g : Bool} {c1 c2 c3 : AV} {d1 d2 d3 : List UInt8} (h1 : rdS T c1 = some (enc d1)) (h2 : rdS T c2 = some (enc d2)) (h3 : rdS T c3 = some (enc d3)) :
    rdS T (.agg [.str a, .str b, .int .i64 n, .int .i64 e, .int .i64 s, c1, .bool g, c2, c3, .str y]) = some (.agg (verL ⟨a, b, n, e, s, d1, g, d2, d3, y⟩)) := by
  simp only [rdS, rdSL, rd0, h1, h2, h3, Option.bind_some, Option.map_some]
theorem verOf_long {l : List Val} (h : ∀ w, w ∈ l → pureA w = true) : longV (verOf l) := by
  have b1 := at_len h 1
  have b2 := at_len h 2
  have b6 := at_len h 6
  have b8 := at_len h 8
  have b9 := at_len h 9
  have b10 := at_len h 10
  exact ⟨⟨by simp only [verOf]; omega, by simp only [verOf]; omega, by simp only [verOf]; omega⟩, by simp only [verOf]; omega, by simp only [verOf]; omega, by simp only [verOf]; omega⟩
theorem ok_readV {E : Env} (hp : E.prim 22 = none) (hf : E.F 22 = some F22) (h1 : E.prim 48 = some fun _ => p_decode) (h2 : E.prim 54 = some fun _ => p_fields) (h3 : E.prim 50 = some fun _ => p_mayV) : OkG E 22 e_readV (gd k_readV r_readV) := by
  refine OkG.code hp hf (fun _ => rfl) fun b S _ => ?_
  have fe : ∀ (T : Store) (e : Int), S <+: T → Conv S T (.tup [.agg [.str [], .str [], .int .i64 0, .int .i64 0, .int .i64 0, .nilS, .bool false, .nilS, .nilS, .str []], .int .i64 e]) S (.tup [.agg (verL ver0), .int .i64 e]) := fun T e hp =>
    conv_pair hp (fun i h => by simp [topIds, topIdsL] at h) (rd_ver T (d1 := []) (d2 := []) (d3 := []) rfl rfl rfl)
  have pr : ∀ L : List AObj, S <+: S ++ L := fun L => List.prefix_append _ _
  obtain ⟨d, hd⟩ : ∃ d, decodeP b = d := ⟨_, rfl⟩
  have hr : readV b = readVD d := by rw [readV, hd]
  unfold readVD at hr
  cases y1 : decide (d.2 = 0)
  · rw [if_pos (of_decide_eq_false y1)] at hr
    simp -dsimp only [go_sem, F22, e_readV, r_readV, c_decode h1, hd, y1, hr]
    exact fe _ _ (pr _)
  have y1' := of_decide_eq_true y1
  rw [if_neg (fun h => h y1')] at hr
  obtain ⟨v, e⟩ := d
  simp only at y1' hr y1
  subst y1'
  obtain ⟨⟨hpu, hde, hby⟩, hbv⟩ := decode_inv hd
  have hvl := (pure_llen hpu).1
  have hpl := pureA_list hpu
  have cf : ∀ (T : Store) (K : AV → Store → Prop) (q : Dm K), SpD E 54 [.agg (valL v), .csl [.int .i64 2, .int .i64 2, .int .i64 2, .int .i64 1, .int .i64 1, .int .i64 1, .int .i64 2, .int .i64 1, .int .i64 2, .int .i64 2, .int .i64 2] 11] T K q = K (.tup [enc (fieldsP v ksV).1, .bool (fieldsP v ksV).2]) T := fun T K q => c_fields h2 v ksV ⟨by decide, by omega⟩
  cases y2 : (fieldsP v ksV).2
  · rw [if_pos (.inl y2)] at hr
    simp -dsimp only [go_sem, F22, e_readV, r_readV, c_decode h1, hd, cf, y2, hr]
    exact fe _ _ (pr _)
  obtain ⟨f1, f2, f3, f4⟩ := fields_len y2
  have f2 : v.list.length = 11 := f2
  rw [f1] at cf
  have i0 := ia_at (l := v.list) (i := 0) (by omega) .i64
  have i1 : iaddrA 4 (enc v.list) (.int .i64 1) = _ := ia_at (l := v.list) (i := 1) (by omega) .i64
  have i2 : iaddrA 4 (enc v.list) (.int .i64 2) = _ := ia_at (l := v.list) (i := 2) (by omega) .i64
  have i3 : iaddrA 4 (enc v.list) (.int .i64 3) = _ := ia_at (l := v.list) (i := 3) (by omega) .i64
  have i4 : iaddrA 4 (enc v.list) (.int .i64 4) = _ := ia_at (l := v.list) (i := 4) (by omega) .i64
  have i5 : iaddrA 4 (enc v.list) (.int .i64 5) = _ := ia_at (l := v.list) (i := 5) (by omega) .i64
  have i6 : iaddrA 4 (enc v.list) (.int .i64 6) = _ := ia_at (l := v.list) (i := 6) (by omega) .i64
  have i7 : iaddrA 4 (enc v.list) (.int .i64 7) = _ := ia_at (l := v.list) (i := 7) (by omega) .i64
  have i8 : iaddrA 4 (enc v.list) (.int .i64 8) = _ := ia_at (l := v.list) (i := 8) (by omega) .i64
  have i9 : iaddrA 4 (enc v.list) (.int .i64 9) = _ := ia_at (l := v.list) (i := 9) (by omega) .i64
  have i10 : iaddrA 4 (enc v.list) (.int .i64 10) = _ := ia_at (l := v.list) (i := 10) (by omega) .i64
  simp only [Int.natCast_zero] at i0
  cases y3 : decide ((at0 v.list 0).bytes = [118, 101, 114, 115, 105, 111, 110])
  · rw [if_pos (.inr (.inl (of_decide_eq_false y3)))] at hr
    simp -dsimp only [go_sem, F22, e_readV, r_readV, c_decode h1, hd, cf, y2, i0, b2s_enc, y3, hr]
    exact fe _ _ (pr _)
  cases y4 : decide (1 < (at0 v.list 7).num)
  rotate_left
  · rw [if_pos (.inr (.inr (.inl (of_decide_eq_true y4))))] at hr
    simp -dsimp only [go_sem, F22, e_readV, r_readV, c_decode h1, hd, cf, y2, i0, i7, b2s_enc, y3, y4, hr]
    exact fe _ _ (pr _)
  have cm : ∀ (T : Store) (K : AV → Store → Prop) (q : Dm K), SpD E 50 [.agg [.str (at0 v.list 1).bytes, .str (at0 v.list 2).bytes, .int .i64 (at0 v.list 3).num, .int .i64 (at0 v.list 4).num, .int .i64 (at0 v.list 5).num, enc (at0 v.list 6).bytes, .bool (decide ((at0 v.list 7).num = 1)), enc (at0 v.list 8).bytes, enc (at0 v.list 9).bytes, .str (at0 v.list 10).bytes]] T K q = K (.bool (mayV (verOf v.list))) T :=
    fun T K q => c_mayV h3 (verOf v.list) (verOf_long hpl)
  simp -dsimp only [go_sem, F22, e_readV, r_readV, c_decode h1, hd, cf, y2, i0, i7, b2s_enc, y3, y4]
  refine ExF.intro ?_
  simp -dsimp only [go_sem, i1, i2, i3, i4, i5, i6, i7, i8, i9, i10, b2s_enc]
  refine ⟨?_, ?_⟩
  rotate_left
  · (repeat' (first | exact fl_ld rfl rfl rfl rfl (flLd_n _ _ _ _ _ _ (by simp -dsimp only [go_sem, i1, i2, i3, i4, i5, i6, i7, i8, i9, i10, b2s_enc])) | exact fl_b2s rfl rfl rfl rfl (by simp -dsimp only [go_sem, i1, i2, i3, i4, i5, i6, i7, i8, i9, i10, b2s_enc]) | apply And.intro))
  cases ym : mayV (verOf v.list)
  · rw [if_pos (.inr (.inr (.inr ym)))] at hr
    simp -dsimp only [go_sem, cm, ym, F22, r_readV, hr]
    exact fe _ _ (pr _)
  · rw [if_neg (fun h => h.elim (fun h => by rw [y2] at h; cases h) fun h => h.elim (fun h => h (of_decide_eq_true y3)) fun h => h.elim (of_decide_eq_false y4) fun h => by rw [ym] at h; cases h)] at hr
    simp -dsimp only [go_sem, cm, ym, F22, r_readV, hr]
    exact conv_pair (pr _) (fun i h => by simp [topIds, topIdsL, enc_top] at h) (rd_ver _ (enc_rdS _ _) (enc_rdS _ _) (enc_rdS _ _))
end Go.Proofs.YtaajlbbooneiiaaDoor.Avm
set_option linter.unusedVariables false
set_option linter.unusedSimpArgs false
set_option maxRecDepth 10000
namespace Go.Proofs.YtaajlbbooneiiaaDoor.Avm

def readVRD (d : Val × Int) (b : List UInt8) : VerR × Int :=
  if d.2 ≠ 0 then (ver0, d.2)
  else if (fieldsP d.1 ksV).2 = false ∨ mayV (verOf d.1.list) = false ∨ bytesA (verV (verOf d.1.list)) ≠ b then (ver0, 11) else (verOf d.1.list, 0)
theorem len11 {l : List Val} (h : l.length = 11) : l = [at0 l 0, at0 l 1, at0 l 2, at0 l 3, at0 l 4, at0 l 5, at0 l 6, at0 l 7, at0 l 8, at0 l 9, at0 l 10] := by
  match l, h with
  | [a, b, c, d, e, f, g, i, j, k, m], _ => rfl
theorem ver_iff {v : Val} (hr : rightV v) (hf : (fieldsP v ksV).2 = true) (hmay : mayV (verOf v.list) = true) : bytesA (verV (verOf v.list)) = bytesA v ↔ ((at0 v.list 0).bytes = markV ∧ ¬ 1 < (at0 v.list 7).num) := by
  obtain ⟨f1, f2, f3, f4⟩ := fields_len hf
  have f2 : v.list.length = 11 := f2
  have hl := len11 f2
  have hp := pureA_list hr.1
  have f4' := f4
  rw [hl] at f4'
  simp only [List.map_cons, List.map_nil, ksV, List.cons.injEq, and_true] at f4'
  obtain ⟨k0, k1, k2, k3, k4, k5, k6, k7, k8, k9, k10⟩ := f4'
  have hat : ∀ i, i < 11 → pureA (at0 v.list i) = true := fun i hi => by rw [← at0_get (by omega)]; exact hp _ (List.getElem_mem _)
  have e0 := pure_raw_eq (hat 0 (by omega)) k0
  have e1 := pure_raw_eq (hat 1 (by omega)) k1
  have e2 := pure_raw_eq (hat 2 (by omega)) k2
  have e3 := pure_num_eq (hat 3 (by omega)) k3
  have e4 := pure_num_eq (hat 4 (by omega)) k4
  have e5 := pure_num_eq (hat 5 (by omega)) k5
  have e6 := pure_raw_eq (hat 6 (by omega)) k6
  have e7 := pure_num_eq (hat 7 (by omega)) k7
  have e8 := pure_raw_eq (hat 8 (by omega)) k8
  have e9 := pure_raw_eq (hat 9 (by omega)) k9
  have e10 := pure_raw_eq (hat 10 (by omega)) k10
  have ev := pure_list_eq hr.1 f3
  have hn := (pure1_1 (pureA_1 (hat 7 (by omega))) k7).1
  constructor
  · intro h
    have := bytesA_inj (right_ver hmay) hr h
    rw [ev] at this
    simp only [verV, listV, Val.mk.injEq, true_and] at this
    rw [hl] at this
    simp only [verVs, List.cons.injEq, and_true] at this
    obtain ⟨a0, a1, a2, a3, a4, a5, a6, a7, a8, a9, a10⟩ := this
    refine ⟨?_, ?_⟩
    · rw [← a0]; rfl
    · rw [← a7]
      show ¬ 1 < goneV _
      unfold goneV; split <;> decide
  · rintro ⟨h1, h2⟩
    have hg : goneV (verOf v.list) = (at0 v.list 7).num := by
      have h01 : (at0 v.list 7).num = 0 ∨ (at0 v.list 7).num = 1 := by omega
      unfold goneV verOf
      rcases h01 with h | h <;> simp [h]
    have : verV (verOf v.list) = v := by
      conv => rhs; rw [ev, hl, e0, e1, e2, e3, e4, e5, e6, e7, e8, e9, e10]
      simp only [verV, verVs, hg, h1]
      rfl
    rw [this]
theorem readVRD_0 (v : Val) (b : List UInt8) : readVRD (v, 0) b = if (fieldsP v ksV).2 = false ∨ mayV (verOf v.list) = false ∨ bytesA (verV (verOf v.list)) ≠ b then (ver0, 11) else (verOf v.list, 0) := by
  unfold readVRD; rw [if_neg (by simp)]
theorem readVD_0 (v : Val) : readVD (v, 0) = if (fieldsP v ksV).2 = false ∨ (at0 v.list 0).bytes ≠ markV ∨ 1 < (at0 v.list 7).num ∨ mayV (verOf v.list) = false then (ver0, 11) else (verOf v.list, 0) := by
  unfold readVD; rw [if_neg (by simp)]
theorem readVR_eq (b : List UInt8) : readVRD (decodeP b) b = readV b := by
  obtain ⟨d, hd⟩ : ∃ d, decodeP b = d := ⟨_, rfl⟩
  rw [readV, hd]
  by_cases h0 : d.2 = 0
  · obtain ⟨v, e⟩ := d
    simp only at h0
    subst h0
    obtain ⟨hr, hb⟩ := decode_inv hd
    rw [readVRD_0, readVD_0]
    cases hf : (fieldsP v ksV).2 with
    | false => rw [if_pos (.inl rfl), if_pos (.inl rfl)]
    | true =>
      cases hm : mayV (verOf v.list) with
      | false => rw [if_pos (.inr (.inl rfl)), if_pos (.inr (.inr (.inr rfl)))]
      | true =>
        have hi := ver_iff hr hf hm
        by_cases hq : bytesA (verV (verOf v.list)) = b
        · obtain ⟨q1, q2⟩ := hi.1 (hq.trans hb)
          rw [if_neg (fun h => h.elim (fun h => by cases h) fun h => h.elim (fun h => by cases h) fun h => h hq), if_neg (fun h => h.elim (fun h => by cases h) fun h => h.elim (fun h => h q1) fun h => h.elim q2 fun h => by cases h)]
        · rw [if_pos (.inr (.inr hq)), if_pos ?_]
          by_cases q1 : (at0 v.list 0).bytes = markV
          · by_cases q2 : 1 < (at0 v.list 7).num
            · exact .inr (.inr (.inl q2))
            · exact absurd ((hi.2 ⟨q1, q2⟩).trans hb.symm) hq
          · exact .inr (.inl q1)
  · unfold readVRD readVD; rw [if_pos h0, if_pos h0]
theorem read_ver {r : VerR} (h : mayV r = true) : readV (bytesA (verV r)) = (r, 0) := by
  have hg : ¬ 1 < goneV r := by unfold goneV; split <;> decide
  have hgo : decide (goneV r = 1) = r.gone := by unfold goneV; cases r.gone <;> rfl
  have hf : (fieldsP (verV r) ksV).2 = true := by simp [fieldsP, verV, verVs, listV, rawV, numV, Val.kind, Val.list, ksV]
  have ho : verOf (verVs r) = r := by
    show VerR.mk r.folder r.item r.number r.epoch r.seq r.digest (decide (goneV r = 1)) r.lock r.body r.by' = r
    rw [hgo]
  have hl : (verV r).list = verVs r := rfl
  rw [readV, decode_put (right_ver h)]
  unfold readVD
  rw [if_neg (by simp)]
  simp only [hl, ho]
  rw [if_neg (fun q => q.elim (fun q => by rw [hf] at q; cases q) fun q => q.elim (fun q => q rfl) fun q => q.elim hg fun q => by rw [h] at q; cases q)]
theorem read_inv {b : List UInt8} {r : VerR} (h : readV b = (r, 0)) : mayV r = true ∧ bytesA (verV r) = b := by
  rw [← readVR_eq] at h
  unfold readVRD at h
  split at h
  · rename_i h0; exact absurd (congrArg (·.2) h) h0
  · split at h
    · cases h
    · rename_i h2
      simp only [not_or, Bool.not_eq_false, ne_eq, Decidable.not_not] at h2
      obtain ⟨q1, q2, q3⟩ := h2
      cases h
      exact ⟨q2, q3⟩
theorem readV_long (b : List UInt8) : longV (readV b).1 := by
  have h0 : longV ver0 := by refine ⟨⟨?_, ?_, ?_⟩, ?_, ?_, ?_⟩ <;> simp [ver0]
  obtain ⟨d, hd⟩ : ∃ d, decodeP b = d := ⟨_, rfl⟩
  rw [readV, hd]
  unfold readVD
  split
  · exact h0
  · rename_i h1
    split
    · exact h0
    · obtain ⟨v, e⟩ := d
      have h1 : e = 0 := by simpa using h1
      subst h1
      exact verOf_long (pureA_list (decode_inv hd).1.1)
theorem ok_readVR {E : Env} (hp : E.prim 25 = none) (hf : E.F 25 = some F25) (h1 : E.prim 49 = some fun _ => p_decodeR) (h2 : E.prim 56 = some fun _ => p_kindsR) (h3 : E.prim 21 = some fun _ => p_mayVR) (h4 : E.prim 23 = some fun _ => p_textVR) (h5 : E.prim 10 = some fun _ => p_bsame) : OkG E 25 e_readVR (gd k_readVR r_readVR) := by
  refine OkG.code hp hf (fun _ => rfl) fun b S _ => ?_
  have fe : ∀ (T : Store) (e : Int), S <+: T → Conv S T (.tup [.agg [.str [], .str [], .int .i64 0, .int .i64 0, .int .i64 0, .nilS, .bool false, .nilS, .nilS, .str []], .int .i64 e]) S (.tup [.agg (verL ver0), .int .i64 e]) := fun T e hp =>
    conv_pair hp (fun i h => by simp [topIds, topIdsL] at h) (rd_ver T (d1 := []) (d2 := []) (d3 := []) rfl rfl rfl)
  have pr : ∀ L : List AObj, S <+: S ++ L := fun L => List.prefix_append _ _
  obtain ⟨d, hd⟩ : ∃ d, decodeP b = d := ⟨_, rfl⟩
  have hr : readV b = readVRD d b := by rw [← readVR_eq, hd]
  unfold readVRD at hr
  cases y1 : decide (d.2 = 0)
  · rw [if_pos (of_decide_eq_false y1)] at hr
    simp -dsimp only [go_sem, F25, e_readVR, r_readVR, c_decodeR h1, hd, y1, hr]
    exact fe _ _ (pr _)
  have y1' := of_decide_eq_true y1
  rw [if_neg (fun h => h y1')] at hr
  obtain ⟨v, e⟩ := d
  simp only at y1' hr y1
  subst y1'
  obtain ⟨⟨hpu, hde, hby⟩, hbv⟩ := decode_inv hd
  have hvl := (pure_llen hpu).1
  have hpl := pureA_list hpu
  have cf : ∀ (T : Store) (K : AV → Store → Prop) (q : Dm K), SpD E 56 [.agg (valL v), .csl [.int .i64 2, .int .i64 2, .int .i64 2, .int .i64 1, .int .i64 1, .int .i64 1, .int .i64 2, .int .i64 1, .int .i64 2, .int .i64 2, .int .i64 2] 11] T K q = K (.bool (fieldsP v ksV).2) T := fun T K q => c_kindsR h2 v ksV ⟨by decide, by omega⟩
  cases y2 : (fieldsP v ksV).2
  · rw [if_pos (.inl y2)] at hr
    simp -dsimp only [go_sem, F25, e_readVR, r_readVR, c_decodeR h1, hd, cf, y2, hr]
    exact fe _ _ (pr _)
  obtain ⟨f1, f2, f3, f4⟩ := fields_len y2
  have f2 : v.list.length = 11 := f2
  have i1 : iaddrA 4 (enc v.list) (.int .i64 1) = _ := ia_at (l := v.list) (i := 1) (by omega) .i64
  have i2 : iaddrA 4 (enc v.list) (.int .i64 2) = _ := ia_at (l := v.list) (i := 2) (by omega) .i64
  have i3 : iaddrA 4 (enc v.list) (.int .i64 3) = _ := ia_at (l := v.list) (i := 3) (by omega) .i64
  have i4 : iaddrA 4 (enc v.list) (.int .i64 4) = _ := ia_at (l := v.list) (i := 4) (by omega) .i64
  have i5 : iaddrA 4 (enc v.list) (.int .i64 5) = _ := ia_at (l := v.list) (i := 5) (by omega) .i64
  have i6 : iaddrA 4 (enc v.list) (.int .i64 6) = _ := ia_at (l := v.list) (i := 6) (by omega) .i64
  have i7 : iaddrA 4 (enc v.list) (.int .i64 7) = _ := ia_at (l := v.list) (i := 7) (by omega) .i64
  have i8 : iaddrA 4 (enc v.list) (.int .i64 8) = _ := ia_at (l := v.list) (i := 8) (by omega) .i64
  have i9 : iaddrA 4 (enc v.list) (.int .i64 9) = _ := ia_at (l := v.list) (i := 9) (by omega) .i64
  have i10 : iaddrA 4 (enc v.list) (.int .i64 10) = _ := ia_at (l := v.list) (i := 10) (by omega) .i64
  have cm : ∀ (T : Store) (K : AV → Store → Prop) (q : Dm K), SpD E 21 [.agg [.str (at0 v.list 1).bytes, .str (at0 v.list 2).bytes, .int .i64 (at0 v.list 3).num, .int .i64 (at0 v.list 4).num, .int .i64 (at0 v.list 5).num, enc (at0 v.list 6).bytes, .bool (decide ((at0 v.list 7).num = 1)), enc (at0 v.list 8).bytes, enc (at0 v.list 9).bytes, .str (at0 v.list 10).bytes]] T K q = K (.bool (mayV (verOf v.list))) T :=
    fun T K q => c_mayVR h3 (verOf v.list) (verOf_long hpl)
  simp -dsimp only [go_sem, F25, e_readVR, r_readVR, c_decodeR h1, hd, cf, y2]
  refine ExF.intro ?_
  simp -dsimp only [go_sem, i1, i2, i3, i4, i5, i6, i7, i8, i9, i10, b2s_enc]
  refine ⟨?_, ?_⟩
  rotate_left
  · (repeat' (first | exact fl_ld rfl rfl rfl rfl (flLd_n _ _ _ _ _ _ (by simp -dsimp only [go_sem, i1, i2, i3, i4, i5, i6, i7, i8, i9, i10, b2s_enc])) | exact fl_b2s rfl rfl rfl rfl (by simp -dsimp only [go_sem, i1, i2, i3, i4, i5, i6, i7, i8, i9, i10, b2s_enc]) | apply And.intro))
  cases ym : mayV (verOf v.list)
  · rw [if_pos (.inr (.inl ym))] at hr
    simp -dsimp only [go_sem, cm, ym, F25, r_readVR, hr]
    exact fe _ _ (pr _)
  have ct : ∀ (T : Store) (K : AV → Store → Prop) (q : Dm K), SpD E 23 [.agg [.str (at0 v.list 1).bytes, .str (at0 v.list 2).bytes, .int .i64 (at0 v.list 3).num, .int .i64 (at0 v.list 4).num, .int .i64 (at0 v.list 5).num, enc (at0 v.list 6).bytes, .bool (decide ((at0 v.list 7).num = 1)), enc (at0 v.list 8).bytes, enc (at0 v.list 9).bytes, .str (at0 v.list 10).bytes]] T K q = K (enc (bytesA (verV (verOf v.list)))) T :=
    fun T K q => c_textVR h4 (verOf v.list) ym
  have cs := fun (T : Store) (K : AV → Store → Prop) (q : Dm K) => c_bsame h5 (bytesA (verV (verOf v.list))) b (by have := (right_ver ym).2.2; omega) (S := T) (K := K) (d := q)
  cases yb : decide (bytesA (verV (verOf v.list)) = b)
  · rw [if_pos (.inr (.inr (of_decide_eq_false yb)))] at hr
    simp -dsimp only [go_sem, cm, ym, ct, cs, yb, F25, r_readVR, hr]
    exact fe _ _ (pr _)
  · rw [if_neg (fun h => h.elim (fun h => by rw [y2] at h; cases h) fun h => h.elim (fun h => by rw [ym] at h; cases h) fun h => h (of_decide_eq_true yb))] at hr
    simp -dsimp only [go_sem, cm, ym, ct, cs, yb, F25, r_readVR, hr]
    exact conv_pair (pr _) (fun i h => by simp [topIds, topIdsL, enc_top] at h) (rd_ver _ (enc_rdS _ _) (enc_rdS _ _) (enc_rdS _ _))
theorem ok_recordVersion {E : Env} (hp : E.prim 5 = none) (hf : E.F 5 = some F5) (h1 : E.prim 7 = some fun _ => p_awake35) (h2 : E.prim 20 = some fun _ => p_textV) (h3 : E.prim 21 = some fun _ => p_mayVR)
    (h4 : E.prim 22 = some fun _ => p_readV) (h5 : E.prim 25 = some fun _ => p_readVR) (h6 : E.prim 10 = some fun _ => p_bsame) (h7 : E.prim 23 = some fun _ => p_textVR) (h8 : E.prim 24 = some fun _ => p_sameV) :
    OkS E 5 e_recordVersion (gd k_recordVersion r_recordVersion) := by
  refine OkS.code hp hf (fun _ => rfl) fun ⟨r, b⟩ hk => ?_
  obtain ⟨k1, k2, k3, k4⟩ := (hk : b.length ≤ 9223372036854775807 ∧ r.digest.length ≤ 9223372036854775807 ∧ r.lock.length ≤ 9223372036854775807 ∧ r.body.length ≤ 9223372036854775807)
  cases x1 : decide ((20 : Int) < (r.folder.length : Int))
  rotate_left
  · simp -dsimp only [go_sem, F5, e_recordVersion, r_recordVersion, c_awake35 h1, x1]
  cases x2 : decide ((20 : Int) < (r.item.length : Int))
  rotate_left
  · simp -dsimp only [go_sem, F5, e_recordVersion, r_recordVersion, c_awake35 h1, x1, x2]
  cases x3 : decide ((20 : Int) < (r.by'.length : Int))
  rotate_left
  · simp -dsimp only [go_sem, F5, e_recordVersion, r_recordVersion, c_awake35 h1, x1, x2, x3]
  cases x4 : decide ((100 : Int) < (r.digest.length : Int))
  rotate_left
  · simp -dsimp only [go_sem, F5, e_recordVersion, r_recordVersion, c_awake35 h1, x1, x2, x3, x4]
  cases x5 : decide ((200 : Int) < (r.lock.length : Int))
  rotate_left
  · simp -dsimp only [go_sem, F5, e_recordVersion, r_recordVersion, c_awake35 h1, x1, x2, x3, x4, x5]
  cases x6 : decide ((700 : Int) < (r.body.length : Int))
  rotate_left
  · simp -dsimp only [go_sem, F5, e_recordVersion, r_recordVersion, c_awake35 h1, x1, x2, x3, x4, x5, x6]
  cases x7 : decide ((1500 : Int) < (b.length : Int))
  rotate_left
  · simp -dsimp only [go_sem, F5, e_recordVersion, r_recordVersion, c_awake35 h1, x1, x2, x3, x4, x5, x6, x7]
  have z1 := of_decide_eq_false x1
  have z2 := of_decide_eq_false x2
  have z3 := of_decide_eq_false x3
  have z4 := of_decide_eq_false x4
  have z5 := of_decide_eq_false x5
  have z6 := of_decide_eq_false x6
  have z7 := of_decide_eq_false x7
  have lr : longV r := ⟨⟨by omega, by omega, by omega⟩, by omega, by omega, by omega⟩
  have ly := readV_long b
  have ct : ∀ (S : Store) (K : AV → Store → Prop) (d : Dm K), SpD E 20 [.agg (verL r)] S K d = K (.tup [enc (textVP r).1, .int .i64 (textVP r).2]) S := fun _ _ _ => c_textV h2 r lr
  have cm : ∀ (S : Store) (K : AV → Store → Prop) (d : Dm K), SpD E 21 [.agg (verL r)] S K d = K (.bool (mayV r)) S := fun _ _ _ => c_mayVR h3 r lr
  obtain ⟨y, hy⟩ : ∃ y, readV b = y := ⟨_, rfl⟩
  rw [hy] at ly
  have cy1 : ∀ (S : Store) (K : AV → Store → Prop) (d : Dm K), SpD E 22 [enc b] S K d = K (.tup [.agg (verL y.1), .int .i64 y.2]) S := fun S K d => by have := c_readV h4 b (S := S) (K := K) (d := d); rw [hy] at this; exact this
  have cy2 : ∀ (S : Store) (K : AV → Store → Prop) (d : Dm K), SpD E 25 [enc b] S K d = K (.tup [.agg (verL y.1), .int .i64 y.2]) S := fun S K d => by have := c_readVR h5 b (S := S) (K := K) (d := d); rw [hy] at this; exact this
  have cs : ∀ a : VerR, longV a → ∀ (S : Store) (K : AV → Store → Prop) (d : Dm K), SpD E 24 [.agg (verL a), .agg (verL a)] S K d = K (.bool true) S := fun a la S K d => by
    have := c_sameV h8 a a la (S := S) (K := K) (d := d)
    rw [decide_eq_true rfl] at this; exact this
  have cs1 := cs r lr
  have cs2 := cs y.1 ly
  have cty : ∀ (S : Store) (K : AV → Store → Prop) (d : Dm K), SpD E 20 [.agg (verL y.1)] S K d = K (.tup [enc (textVP y.1).1, .int .i64 (textVP y.1).2]) S := fun _ _ _ => c_textV h2 y.1 ly
  have cb : ∀ l : List UInt8, l.length ≤ 1048576 → ∀ (S : Store) (K : AV → Store → Prop) (d : Dm K), SpD E 10 [enc l, enc l] S K d = K (.bool true) S := fun l hl S K d => by
    have := c_bsame h6 l l (by omega) (S := S) (K := K) (d := d)
    rw [decide_eq_true rfl] at this; exact this
  have cb2 := cb b (by omega)
  cases y2 : mayV r
  · have ht : textVP r = ([], 2) := if_neg (by simp [y2])
    cases y3 : decide (y.2 = 0)
    · simp -dsimp only [go_sem, F5, e_recordVersion, r_recordVersion, c_awake35 h1, x1, x2, x3, x4, x5, x6, x7, ct, ht, cm, y2, cy1, cy2, cs2, cty, y3]
    · have hv := read_inv (b := b) (r := y.1) (by rw [hy]; exact Prod.ext rfl (of_decide_eq_true y3))
      have hty : textVP y.1 = (b, 0) := by rw [textVP, if_pos hv.1, hv.2]
      rw [hty] at cty
      simp -dsimp only [go_sem, F5, e_recordVersion, r_recordVersion, c_awake35 h1, x1, x2, x3, x4, x5, x6, x7, ct, ht, cm, y2, cy1, cy2, cs2, cty, y3, cb2]
  · have ht : textVP r = (bytesA (verV r), 0) := if_pos y2
    have hr := read_ver y2
    have hl := (right_ver y2).2.2
    have cr : ∀ (S : Store) (K : AV → Store → Prop) (d : Dm K), SpD E 22 [enc (bytesA (verV r))] S K d = K (.tup [.agg (verL r), .int .i64 0]) S := fun S K d => by have := c_readV h4 (bytesA (verV r)) (S := S) (K := K) (d := d); rw [hr] at this; exact this
    have cx : ∀ (S : Store) (K : AV → Store → Prop) (d : Dm K), SpD E 23 [.agg (verL r)] S K d = K (enc (bytesA (verV r))) S := fun _ _ _ => c_textVR h7 r y2
    have cb1 := cb (bytesA (verV r)) hl
    cases y3 : decide (y.2 = 0)
    · simp -dsimp only [go_sem, F5, e_recordVersion, r_recordVersion, c_awake35 h1, x1, x2, x3, x4, x5, x6, x7, ct, ht, cm, y2, cr, cx, cb1, cs1, cy1, cy2, cs2, cty, y3]
    · have hv := read_inv (b := b) (r := y.1) (by rw [hy]; exact Prod.ext rfl (of_decide_eq_true y3))
      have hty : textVP y.1 = (b, 0) := by rw [textVP, if_pos hv.1, hv.2]
      rw [hty] at cty
      simp -dsimp only [go_sem, F5, e_recordVersion, r_recordVersion, c_awake35 h1, x1, x2, x3, x4, x5, x6, x7, ct, ht, cm, y2, cr, cx, cb1, cs1, cy1, cy2, cs2, cty, y3, cb2]
end Go.Proofs.YtaajlbbooneiiaaDoor.Avm
