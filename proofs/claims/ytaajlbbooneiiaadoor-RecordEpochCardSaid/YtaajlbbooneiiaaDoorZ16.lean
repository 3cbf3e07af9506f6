/- Records of epochs: what may be. Records of epochs: their texts. Records of epochs: the document's reading, in plain words; records compared. Records of epochs read; the document's reading. -/
import Derived.Test.YtaajlbbooneiiaaDoorZ15
set_option linter.unusedVariables false
set_option linter.unusedSimpArgs false
set_option maxRecDepth 10000
namespace Go.Proofs.YtaajlbbooneiiaaDoor.Avm

@[ext] structure EpoR where
  folder : Str
  number : Int
  place : Int
  from' : Int
  seq : Int
  digest : List UInt8
  chain : List Mem
  pub : List UInt8
  link : List UInt8
  by' : Str
deriving instance DecidableEq for EpoR
abbrev epoL (r : EpoR) : List AV := [.str r.folder, .int .i64 r.number, .int .i64 r.place, .int .i64 r.from', .int .i64 r.seq, enc r.digest, enc r.chain, enc r.pub, enc r.link, .str r.by']
def atsOk (l : List Mem) : Bool := l.all fun x => nameOk x.name && seqOk x.role
def few4 (l : List Mem) : Bool := decide (1 ≤ (l.length : Int) ∧ (l.length : Int) ≤ 4)
def headIs (l : List Mem) (f : Str) (s : Int) : Bool := decide ((l.headD ⟨[], 0⟩).name = f) && decide ((l.headD ⟨[], 0⟩).role = s)
def chainOk (l : List Mem) (f : Str) (s : Int) : Bool := few4 l && (headIs l f s && atsOk l)
def placeOk (n : Int) : Bool := decide (1 ≤ n ∧ n ≤ 4)
def fromOk (n s : Int) : Bool := decide (1 ≤ n ∧ n ≤ s)
def linkOk (r : EpoR) : Bool := if r.place = 1 ∧ 1 < r.number then longOk r.link 100 else decide (r.link.length = 0)
def mayE (r : EpoR) : Bool := nameOk r.folder && (nameOk r.by' && (seqOk r.number && (seqOk r.seq && (placeOk r.place && (fromOk r.from' r.seq && (longOk r.digest 64 && (longOk r.pub 64 && (chainOk r.chain r.folder r.seq && linkOk r))))))))
def longE (r : EpoR) : Prop := (r.folder.length ≤ 1000000000000 ∧ r.by'.length ≤ 1000000000000) ∧ r.digest.length ≤ 1000000000000 ∧ r.pub.length ≤ 1000000000000 ∧ r.link.length ≤ 1000000000000 ∧ (r.chain.length ≤ 1000000000000 ∧ ∀ x, x ∈ r.chain → x.name.length ≤ 9223372036854775807)
def markE : List UInt8 := [101, 112, 111, 99, 104]
def epoVs (r : EpoR) : List Val := [rawV markE, rawV r.folder, numV r.number, numV r.place, numV r.from', numV r.seq, rawV r.digest, listV (r.chain.map memV), rawV r.pub, rawV r.link, rawV r.by']
def epoV (r : EpoR) : Val := listV (epoVs r)
def textEP (r : EpoR) : List UInt8 × Int := if mayE r = true then (bytesA (epoV r), 0) else ([], 2)
def ksE : List Int := [2, 2, 1, 1, 1, 1, 2, 3, 2, 2, 2]
def epo0 : EpoR := ⟨[], 0, 0, 0, 0, [], [], [], [], []⟩
def epoOf (l : List Val) (ms : List Mem) : EpoR := ⟨(at0 l 1).bytes, (at0 l 2).num, (at0 l 3).num, (at0 l 4).num, (at0 l 5).num, (at0 l 6).bytes, ms, (at0 l 8).bytes, (at0 l 9).bytes, (at0 l 10).bytes⟩
def readED (d : Val × Int) : EpoR × Int :=
  if d.2 ≠ 0 then (epo0, d.2)
  else if (fieldsP d.1 ksE).2 = false ∨ (at0 d.1.list 0).bytes ≠ markE then (epo0, 11)
  else (memsOf (at0 d.1.list 7).list).elim (epo0, 11) fun ms => if mayE (epoOf d.1.list ms) = false then (epo0, 11) else (epoOf d.1.list ms, 0)
def readE (b : List UInt8) : EpoR × Int := readED (decodeP b)

def e_chain35 : (List Mem) × Str × Int → List AV := fun | (l, f, s) => [enc l, .str f, .int .i64 s]
def k_chain35 : (List Mem) × Str × Int → Prop := fun | (l, f, s) => l.length ≤ 1000000000000 ∧ ∀ x, x ∈ l → x.name.length ≤ 9223372036854775807
def r_chain35 : (List Mem) × Str × Int → AV := fun | (l, f, s) => .bool (chainOk l f s)
noncomputable def p_chain35 : List AV → Store → Option (AV × Store) := primS e_chain35 (gd k_chain35 r_chain35)
theorem i_chain35 : Inj e_chain35 := by
  rintro ⟨l1, f1, s1⟩ ⟨l2, f2, s2⟩ h
  simpa only [e_chain35, enc_inj, rec_inj, AV.str.injEq, AV.int.injEq, AV.bool.injEq, AV.agg.injEq, AV.ptr.injEq, AV.fn.injEq, List.cons.injEq, and_true, true_and, Prod.mk.injEq] using h
theorem c_chain35 {E : Env} (h : E.prim 71 = some fun _ => p_chain35) (l : List Mem) (f : Str) (s : Int) (hk : l.length ≤ 1000000000000 ∧ ∀ x, x ∈ l → x.name.length ≤ 9223372036854775807) {S : Store} {K : AV → Store → Prop} {d : Dm K} : SpD E 71 [enc l, .str f, .int .i64 s] S K d = K (.bool (chainOk l f s)) S :=
  callS h i_chain35 (a := (l, f, s)) (by simp only [e_chain35, rdSL_cons, rdSL_nil, rdS_int, rdS_bool, rdS_str, enc_rdS, rdS_fn0, rdS_csl0, rdS_rec, rdSL_rec, rdS_agg, rdS_tup, Option.bind_some, Option.map_some]) hk
theorem c_chain35' {E : Env} (h : E.prim 71 = some fun _ => p_chain35) {S : Store} {x0 x1 x2 : AV} {l : List Mem} {f : Str} {s : Int} (h0 : rdS S x0 = some (enc l)) (h1 : rdS S x1 = some (.str f)) (h2 : rdS S x2 = some (.int .i64 s)) (hk : l.length ≤ 1000000000000 ∧ ∀ x, x ∈ l → x.name.length ≤ 9223372036854775807) {K : AV → Store → Prop} {d : Dm K} : SpD E 71 [x0, x1, x2] S K d = K (.bool (chainOk l f s)) S :=
  callS h i_chain35 (a := (l, f, s)) (by simp only [e_chain35, rdSL, h0, h1, h2, Option.bind_some, Option.map_some]) hk
def e_mayE : EpoR → List AV := fun r => [.agg (epoL r)]
def k_mayE : EpoR → Prop := fun r => longE r
def r_mayE : EpoR → AV := fun r => .bool (mayE r)
noncomputable def p_mayE : List AV → Store → Option (AV × Store) := primS e_mayE (gd k_mayE r_mayE)
theorem i_mayE : Inj e_mayE := by
  intro r1 r2 h
  simpa only [e_mayE, enc_inj, rec_inj, AV.str.injEq, AV.int.injEq, AV.bool.injEq, AV.agg.injEq, AV.ptr.injEq, AV.fn.injEq, List.cons.injEq, and_true, true_and, Prod.mk.injEq, EpoR.ext_iff, and_assoc] using h
theorem c_mayE {E : Env} (h : E.prim 57 = some fun _ => p_mayE) (r : EpoR) (hk : longE r) {S : Store} {K : AV → Store → Prop} {d : Dm K} : SpD E 57 [.agg (epoL r)] S K d = K (.bool (mayE r)) S :=
  callS h i_mayE (a := r) (by simp only [e_mayE, rdSL_cons, rdSL_nil, rdS_int, rdS_bool, rdS_str, enc_rdS, rdS_fn0, rdS_csl0, rdS_rec, rdSL_rec, rdS_agg, rdS_tup, Option.bind_some, Option.map_some]) hk
theorem c_mayE' {E : Env} (h : E.prim 57 = some fun _ => p_mayE) {S : Store} {x0 : AV} {r : EpoR} (h0 : rdS S x0 = some (.agg (epoL r))) (hk : longE r) {K : AV → Store → Prop} {d : Dm K} : SpD E 57 [x0] S K d = K (.bool (mayE r)) S :=
  callS h i_mayE (a := r) (by simp only [e_mayE, rdSL, h0, Option.bind_some, Option.map_some]) hk
def e_mayER : EpoR → List AV := fun r => [.agg (epoL r)]
def k_mayER : EpoR → Prop := fun r => longE r
def r_mayER : EpoR → AV := fun r => .bool (mayE r)
noncomputable def p_mayER : List AV → Store → Option (AV × Store) := primS e_mayER (gd k_mayER r_mayER)
theorem i_mayER : Inj e_mayER := by
  intro r1 r2 h
  simpa only [e_mayER, enc_inj, rec_inj, AV.str.injEq, AV.int.injEq, AV.bool.injEq, AV.agg.injEq, AV.ptr.injEq, AV.fn.injEq, List.cons.injEq, and_true, true_and, Prod.mk.injEq, EpoR.ext_iff, and_assoc] using h
theorem c_mayER {E : Env} (h : E.prim 27 = some fun _ => p_mayER) (r : EpoR) (hk : longE r) {S : Store} {K : AV → Store → Prop} {d : Dm K} : SpD E 27 [.agg (epoL r)] S K d = K (.bool (mayE r)) S :=
  callS h i_mayER (a := r) (by simp only [e_mayER, rdSL_cons, rdSL_nil, rdS_int, rdS_bool, rdS_str, enc_rdS, rdS_fn0, rdS_csl0, rdS_rec, rdSL_rec, rdS_agg, rdS_tup, Option.bind_some, Option.map_some]) hk
theorem c_mayER' {E : Env} (h : E.prim 27 = some fun _ => p_mayER) {S : Store} {x0 : AV} {r : EpoR} (h0 : rdS S x0 = some (.agg (epoL r))) (hk : longE r) {K : AV → Store → Prop} {d : Dm K} : SpD E 27 [x0] S K d = K (.bool (mayE r)) S :=
  callS h i_mayER (a := r) (by simp only [e_mayER, rdSL, h0, Option.bind_some, Option.map_some]) hk
def e_textE : EpoR → List AV := fun r => [.agg (epoL r)]
def k_textE : EpoR → Prop := fun r => longE r
def r_textE : EpoR → AV := fun r => .tup [enc (textEP r).1, .int .i64 (textEP r).2]
noncomputable def p_textE : List AV → Store → Option (AV × Store) := primG e_textE (gd k_textE r_textE)
theorem i_textE : Inj e_textE := by
  intro r1 r2 h
  simpa only [e_textE, enc_inj, rec_inj, AV.str.injEq, AV.int.injEq, AV.bool.injEq, AV.agg.injEq, AV.ptr.injEq, AV.fn.injEq, List.cons.injEq, and_true, true_and, Prod.mk.injEq, EpoR.ext_iff, and_assoc] using h
theorem c_textE {E : Env} (h : E.prim 26 = some fun _ => p_textE) (r : EpoR) (hk : longE r) {S : Store} {K : AV → Store → Prop} {d : Dm K} : SpD E 26 [.agg (epoL r)] S K d = K (.tup [enc (textEP r).1, .int .i64 (textEP r).2]) S := by
  have := callG h i_textE (a := r) (S := S) (args := [.agg (epoL r)]) (K := K) (d := d) (by simp only [e_textE, rdSL_cons, rdSL_nil, rdS_int, rdS_bool, rdS_str, enc_rdS, rdS_fn0, rdS_csl0, rdS_rec, rdSL_rec, rdS_agg, rdS_tup, Option.bind_some, Option.map_some]) hk
  simpa only [r_textE, topL_cons, topL_nil, top_int, top_bool, top_str, top_csl, enc_top, top_agg, top_rec, top_fn, List.nil_append, killL_nil] using this
theorem c_textE' {E : Env} (h : E.prim 26 = some fun _ => p_textE) {S : Store} {x0 : AV} {r : EpoR} (h0 : rdS S x0 = some (.agg (epoL r))) (hk : longE r) {K : AV → Store → Prop} {d : Dm K} : SpD E 26 [x0] S K d = K (.tup [enc (textEP r).1, .int .i64 (textEP r).2]) (killL (topIdsL [x0]) S) :=
  callG h i_textE (a := r) (by simp only [e_textE, rdSL, h0, Option.bind_some, Option.map_some]) hk
def e_textER : EpoR → List AV := fun r => [.agg (epoL r)]
def k_textER : EpoR → Prop := fun r => mayE r = true
def r_textER : EpoR → AV := fun r => enc (bytesA (epoV r))
noncomputable def p_textER : List AV → Store → Option (AV × Store) := primH e_textER (gd k_textER r_textER)
theorem i_textER : Inj e_textER := by
  intro r1 r2 h
  simpa only [e_textER, enc_inj, rec_inj, AV.str.injEq, AV.int.injEq, AV.bool.injEq, AV.agg.injEq, AV.ptr.injEq, AV.fn.injEq, List.cons.injEq, and_true, true_and, Prod.mk.injEq, EpoR.ext_iff, and_assoc] using h
theorem c_textER {E : Env} (h : E.prim 29 = some fun _ => p_textER) (r : EpoR) (hk : mayE r = true) {S : Store} {K : AV → Store → Prop} {d : Dm K} : SpD E 29 [.agg (epoL r)] S K d = K (enc (bytesA (epoV r))) S := by
  have := callH h i_textER (a := r) (S := S) (args := [.agg (epoL r)]) (K := K) (d := d) (by simp only [e_textER, rdSL_cons, rdSL_nil, rdS_int, rdS_bool, rdS_str, enc_rdS, rdS_fn0, rdS_csl0, rdS_rec, rdSL_rec, rdS_agg, rdS_tup, Option.bind_some, Option.map_some]) hk
  simpa only [r_textER, topL_cons, topL_nil, top_int, top_bool, top_str, top_csl, enc_top, top_agg, top_rec, top_fn, List.nil_append, killH_nil] using this
theorem c_textER' {E : Env} (h : E.prim 29 = some fun _ => p_textER) {S : Store} {x0 : AV} {r : EpoR} (h0 : rdS S x0 = some (.agg (epoL r))) (hk : mayE r = true) {K : AV → Store → Prop} {d : Dm K} : SpD E 29 [x0] S K d = K (enc (bytesA (epoV r))) (killH (topIdsL [x0]) S) :=
  callH h i_textER (a := r) (by simp only [e_textER, rdSL, h0, Option.bind_some, Option.map_some]) hk
def e_readE : List UInt8 → List AV := fun b => [enc b]
def k_readE : List UInt8 → Prop := fun b => True
def r_readE : List UInt8 → AV := fun b => .tup [.agg (epoL (readE b).1), .int .i64 (readE b).2]
noncomputable def p_readE : List AV → Store → Option (AV × Store) := primG e_readE (gd k_readE r_readE)
theorem i_readE : Inj e_readE := by
  intro b1 b2 h
  simpa only [e_readE, enc_inj, rec_inj, AV.str.injEq, AV.int.injEq, AV.bool.injEq, AV.agg.injEq, AV.ptr.injEq, AV.fn.injEq, List.cons.injEq, and_true, true_and, Prod.mk.injEq] using h
theorem c_readE {E : Env} (h : E.prim 28 = some fun _ => p_readE) (b : List UInt8) {S : Store} {K : AV → Store → Prop} {d : Dm K} : SpD E 28 [enc b] S K d = K (.tup [.agg (epoL (readE b).1), .int .i64 (readE b).2]) S := by
  have := callG h i_readE (a := b) (S := S) (args := [enc b]) (K := K) (d := d) (by simp only [e_readE, rdSL_cons, rdSL_nil, rdS_int, rdS_bool, rdS_str, enc_rdS, rdS_fn0, rdS_csl0, rdS_rec, rdSL_rec, rdS_agg, rdS_tup, Option.bind_some, Option.map_some]) trivial
  simpa only [r_readE, topL_cons, topL_nil, top_int, top_bool, top_str, top_csl, enc_top, top_agg, top_rec, top_fn, List.nil_append, killL_nil] using this
theorem c_readE' {E : Env} (h : E.prim 28 = some fun _ => p_readE) {S : Store} {x0 : AV} {b : List UInt8} (h0 : rdS S x0 = some (enc b)) {K : AV → Store → Prop} {d : Dm K} : SpD E 28 [x0] S K d = K (.tup [.agg (epoL (readE b).1), .int .i64 (readE b).2]) (killL (topIdsL [x0]) S) :=
  callG h i_readE (a := b) (by simp only [e_readE, rdSL, h0, Option.bind_some, Option.map_some]) trivial
def e_readER : List UInt8 → List AV := fun b => [enc b]
def k_readER : List UInt8 → Prop := fun b => True
def r_readER : List UInt8 → AV := fun b => .tup [.agg (epoL (readE b).1), .int .i64 (readE b).2]
noncomputable def p_readER : List AV → Store → Option (AV × Store) := primG e_readER (gd k_readER r_readER)
theorem i_readER : Inj e_readER := by
  intro b1 b2 h
  simpa only [e_readER, enc_inj, rec_inj, AV.str.injEq, AV.int.injEq, AV.bool.injEq, AV.agg.injEq, AV.ptr.injEq, AV.fn.injEq, List.cons.injEq, and_true, true_and, Prod.mk.injEq] using h
theorem c_readER {E : Env} (h : E.prim 31 = some fun _ => p_readER) (b : List UInt8) {S : Store} {K : AV → Store → Prop} {d : Dm K} : SpD E 31 [enc b] S K d = K (.tup [.agg (epoL (readE b).1), .int .i64 (readE b).2]) S := by
  have := callG h i_readER (a := b) (S := S) (args := [enc b]) (K := K) (d := d) (by simp only [e_readER, rdSL_cons, rdSL_nil, rdS_int, rdS_bool, rdS_str, enc_rdS, rdS_fn0, rdS_csl0, rdS_rec, rdSL_rec, rdS_agg, rdS_tup, Option.bind_some, Option.map_some]) trivial
  simpa only [r_readER, topL_cons, topL_nil, top_int, top_bool, top_str, top_csl, enc_top, top_agg, top_rec, top_fn, List.nil_append, killL_nil] using this
theorem c_readER' {E : Env} (h : E.prim 31 = some fun _ => p_readER) {S : Store} {x0 : AV} {b : List UInt8} (h0 : rdS S x0 = some (enc b)) {K : AV → Store → Prop} {d : Dm K} : SpD E 31 [x0] S K d = K (.tup [.agg (epoL (readE b).1), .int .i64 (readE b).2]) (killL (topIdsL [x0]) S) :=
  callG h i_readER (a := b) (by simp only [e_readER, rdSL, h0, Option.bind_some, Option.map_some]) trivial
def e_sameE : EpoR × EpoR → List AV := fun | (a, b) => [.agg (epoL a), .agg (epoL b)]
def k_sameE : EpoR × EpoR → Prop := fun | (a, b) => longE a
def r_sameE : EpoR × EpoR → AV := fun | (a, b) => .bool (decide (a = b))
noncomputable def p_sameE : List AV → Store → Option (AV × Store) := primS e_sameE (gd k_sameE r_sameE)
theorem i_sameE : Inj e_sameE := by
  rintro ⟨a1, b1⟩ ⟨a2, b2⟩ h
  simpa only [e_sameE, enc_inj, rec_inj, AV.str.injEq, AV.int.injEq, AV.bool.injEq, AV.agg.injEq, AV.ptr.injEq, AV.fn.injEq, List.cons.injEq, and_true, true_and, Prod.mk.injEq, EpoR.ext_iff, and_assoc] using h
theorem c_sameE {E : Env} (h : E.prim 30 = some fun _ => p_sameE) (a : EpoR) (b : EpoR) (hk : longE a) {S : Store} {K : AV → Store → Prop} {d : Dm K} : SpD E 30 [.agg (epoL a), .agg (epoL b)] S K d = K (.bool (decide (a = b))) S :=
  callS h i_sameE (a := (a, b)) (by simp only [e_sameE, rdSL_cons, rdSL_nil, rdS_int, rdS_bool, rdS_str, enc_rdS, rdS_fn0, rdS_csl0, rdS_rec, rdSL_rec, rdS_agg, rdS_tup, Option.bind_some, Option.map_some]) hk
theorem c_sameE' {E : Env} (h : E.prim 30 = some fun _ => p_sameE) {S : Store} {x0 x1 : AV} {a : EpoR} {b : EpoR} (h0 : rdS S x0 = some (.agg (epoL a))) (h1 : rdS S x1 = some (.agg (epoL b))) (hk : longE a) {K : AV → Store → Prop} {d : Dm K} : SpD E 30 [x0, x1] S K d = K (.bool (decide (a = b))) S :=
  callS h i_sameE (a := (a, b)) (by simp only [e_sameE, rdSL, h0, h1, Option.bind_some, Option.map_some]) hk
def e_recordEpoch : EpoR × (List UInt8) → List AV := fun | (r, b) => [.agg (epoL r), enc b]
def k_recordEpoch : EpoR × (List UInt8) → Prop := fun | (r, b) => b.length ≤ 9223372036854775807 ∧ r.digest.length ≤ 9223372036854775807 ∧ r.pub.length ≤ 9223372036854775807 ∧ r.link.length ≤ 9223372036854775807 ∧ (r.chain.length ≤ 9223372036854775807 ∧ ∀ x, x ∈ r.chain → x.name.length ≤ 9223372036854775807)
def r_recordEpoch : EpoR × (List UInt8) → AV := fun | (r, b) => .bool true
noncomputable def p_recordEpoch : List AV → Store → Option (AV × Store) := primS e_recordEpoch (gd k_recordEpoch r_recordEpoch)
theorem i_recordEpoch : Inj e_recordEpoch := by
  rintro ⟨r1, b1⟩ ⟨r2, b2⟩ h
  simpa only [e_recordEpoch, enc_inj, rec_inj, AV.str.injEq, AV.int.injEq, AV.bool.injEq, AV.agg.injEq, AV.ptr.injEq, AV.fn.injEq, List.cons.injEq, and_true, true_and, Prod.mk.injEq, EpoR.ext_iff, and_assoc] using h
theorem c_recordEpoch {E : Env} (h : E.prim 6 = some fun _ => p_recordEpoch) (r : EpoR) (b : List UInt8) (hk : b.length ≤ 9223372036854775807 ∧ r.digest.length ≤ 9223372036854775807 ∧ r.pub.length ≤ 9223372036854775807 ∧ r.link.length ≤ 9223372036854775807 ∧ (r.chain.length ≤ 9223372036854775807 ∧ ∀ x, x ∈ r.chain → x.name.length ≤ 9223372036854775807)) {S : Store} {K : AV → Store → Prop} {d : Dm K} : SpD E 6 [.agg (epoL r), enc b] S K d = K (.bool true) S :=
  callS h i_recordEpoch (a := (r, b)) (by simp only [e_recordEpoch, rdSL_cons, rdSL_nil, rdS_int, rdS_bool, rdS_str, enc_rdS, rdS_fn0, rdS_csl0, rdS_rec, rdSL_rec, rdS_agg, rdS_tup, Option.bind_some, Option.map_some]) hk
theorem c_recordEpoch' {E : Env} (h : E.prim 6 = some fun _ => p_recordEpoch) {S : Store} {x0 x1 : AV} {r : EpoR} {b : List UInt8} (h0 : rdS S x0 = some (.agg (epoL r))) (h1 : rdS S x1 = some (enc b)) (hk : b.length ≤ 9223372036854775807 ∧ r.digest.length ≤ 9223372036854775807 ∧ r.pub.length ≤ 9223372036854775807 ∧ r.link.length ≤ 9223372036854775807 ∧ (r.chain.length ≤ 9223372036854775807 ∧ ∀ x, x ∈ r.chain → x.name.length ≤ 9223372036854775807)) {K : AV → Store → Prop} {d : Dm K} : SpD E 6 [x0, x1] S K d = K (.bool true) S :=
  callS h i_recordEpoch (a := (r, b)) (by simp only [e_recordEpoch, rdSL, h0, h1, Option.bind_some, Option.map_some]) hk

theorem ok_chain35 {E : Env} (hp : E.prim 71 = none) (hf : E.F 71 = some F71) (h1 : E.prim 68 = some fun _ => p_name) (h2 : E.prim 69 = some fun _ => p_seq35) : OkS E 71 e_chain35 (gd k_chain35 r_chain35) := by
  refine OkS.code hp hf (fun _ => rfl) fun ⟨l, f, s⟩ hk => ?_
  obtain ⟨hl, hx⟩ := (hk : l.length ≤ 1000000000000 ∧ ∀ x, x ∈ l → x.name.length ≤ 9223372036854775807)
  cases y1 : decide ((l.length : Int) < 1)
  rotate_left
  · have e : chainOk l f s = false := by rw [chainOk, few4, decide_eq_false (by have := of_decide_eq_true y1; omega), Bool.false_and]
    simp -dsimp only [go_sem, F71, e_chain35, r_chain35, y1, e]
  cases y2 : decide ((4 : Int) < (l.length : Int))
  rotate_left
  · have e : chainOk l f s = false := by rw [chainOk, few4, decide_eq_false (by have := of_decide_eq_true y2; omega), Bool.false_and]
    simp -dsimp only [go_sem, F71, e_chain35, r_chain35, y1, y2, e]
  have z1 := of_decide_eq_false y1
  have z2 := of_decide_eq_false y2
  have ef : few4 l = true := decide_eq_true (by omega)
  have i0 : iaddrA 2 (enc l) (.int .i64 0) = some (.cptr (Rec.c l[0] ++ cl (l.drop 1))) := ia_enc (i := 0) .i64 (by omega) rfl
  have hh : l.headD ⟨[], 0⟩ = l[0] := by rw [List.headD_eq_head?_getD, List.head?_eq_getElem?, List.getElem?_eq_getElem (by omega)]; rfl
  have hq : eqsA true [1, 0] (.agg [.str l[0].name, .int .i64 l[0].role]) (.agg [.str f, .int .i64 s]) = some (.bool !headIs l f s) := by
    rw [headIs, hh]
    have := eqsA_n [1, 0] [.str l[0].name, .int .i64 l[0].role] [.str f, .int .i64 s] rfl rfl (aeqs_s [0] l[0].name f [.int .i64 l[0].role] [.int .i64 s] (aeqs_i [] .i64 l[0].role s [] [] aeqs_nil))
    rw [this, Bool.and_true]
  cases y3 : headIs l f s
  · have e : chainOk l f s = false := by rw [chainOk, y3, Bool.false_and, Bool.and_false]
    simp -dsimp only [go_sem, F71, e_chain35, r_chain35, y1, y2, i0, ld_enc, c_mem, hq, y3, e]
  have e0 : chainOk l f s = atsOk l := by rw [chainOk, ef, y3, Bool.true_and, Bool.true_and]
  simp -dsimp only [go_sem, F71, e_chain35, y1, y2, i0, ld_enc, c_mem, hq, y3]
  refine Ex.range (n := l.length) (fun i g T => g 26 = enc l ∧ atsOk (l.take i) = true) (by decide) (by omega) rfl rfl ⟨rfl, rfl⟩ ?_ ?_
  · rintro i g T hi gi gn ⟨g26, hI⟩
    have cn := fun (T : Store) (K : AV → Store → Prop) (q : Dm K) => c_name h1 l[i].name (hx _ (List.getElem_mem hi)) (S := T) (K := K) (d := q)
    have bad : (nameOk l[i].name && seqOk l[i].role) = false → chainOk l f s = false := fun h => by
      rw [e0, atsOk, Bool.eq_false_iff]
      intro q
      have := List.all_eq_true.1 q _ (List.getElem_mem hi)
      rw [h] at this; cases this
    cases q1 : nameOk l[i].name
    · have e := bad (by rw [q1]; rfl)
      simp -dsimp only [go_sem, gi, gn, g26, ia_enc .i64 hi, ld_enc, c_mem, cn, q1, F71, r_chain35, e]
    cases q2 : seqOk l[i].role
    · have e := bad (by rw [q1, q2]; rfl)
      simp -dsimp only [go_sem, gi, gn, g26, ia_enc .i64 hi, ld_enc, c_mem, cn, q1, c_seq35 h2, q2, F71, r_chain35, e]
    · simp -dsimp only [go_sem, gi, gn, g26, ia_enc .i64 hi, ld_enc, c_mem, cn, q1, c_seq35 h2, q2]
      rw [List.take_succ_eq_append_getElem hi, atsOk, List.all_append]
      simp only [List.all_cons, List.all_nil, q1, q2, Bool.and_true]
      exact hI
  · rintro g T gi ⟨g26, hI⟩
    rw [List.take_length] at hI
    have e : chainOk l f s = true := by rw [e0, hI]
    simp -dsimp only [go_sem, gi, g26, F71, r_chain35, e]
theorem ok_mayE {E : Env} (hp : E.prim 57 = none) (hf : E.F 57 = some F57) (h1 : E.prim 68 = some fun _ => p_name) (h2 : E.prim 69 = some fun _ => p_seq35) (h3 : E.prim 70 = some fun _ => p_long35) (h4 : E.prim 71 = some fun _ => p_chain35) :
    OkS E 57 e_mayE (gd k_mayE r_mayE) := by
  refine OkS.code hp hf (fun _ => rfl) fun r hk => ?_
  obtain ⟨⟨l1, l2⟩, l4, l5, l6, l7⟩ := (hk : longE r)
  have q1 := fun (S : Store) (K : AV → Store → Prop) (d : Dm K) => c_name h1 r.folder (by omega) (S := S) (K := K) (d := d)
  have q2 := fun (S : Store) (K : AV → Store → Prop) (d : Dm K) => c_name h1 r.by' (by omega) (S := S) (K := K) (d := d)
  have q4 := fun (S : Store) (K : AV → Store → Prop) (d : Dm K) => c_long35 h3 r.digest 64 (by omega) (S := S) (K := K) (d := d)
  have q5 := fun (S : Store) (K : AV → Store → Prop) (d : Dm K) => c_long35 h3 r.pub 64 (by omega) (S := S) (K := K) (d := d)
  have q6 := fun (S : Store) (K : AV → Store → Prop) (d : Dm K) => c_long35 h3 r.link 100 (by omega) (S := S) (K := K) (d := d)
  have q7 := fun (S : Store) (K : AV → Store → Prop) (d : Dm K) => c_chain35 h4 r.chain r.folder r.seq l7 (S := S) (K := K) (d := d)
  cases x1 : nameOk r.folder
  · have e : mayE r = false := by simp only [mayE, x1, Bool.false_and, Bool.true_and]
    simp -dsimp only [go_sem, F57, e_mayE, r_mayE, q1, q2, q4, q5, q6, q7, c_seq35 h2, x1, e]
  cases x2 : nameOk r.by'
  · have e : mayE r = false := by simp only [mayE, x1, x2, Bool.false_and, Bool.true_and]
    simp -dsimp only [go_sem, F57, e_mayE, r_mayE, q1, q2, q4, q5, q6, q7, c_seq35 h2, x1, x2, e]
  cases x3 : seqOk r.number
  · have e : mayE r = false := by simp only [mayE, x1, x2, x3, Bool.false_and, Bool.true_and]
    simp -dsimp only [go_sem, F57, e_mayE, r_mayE, q1, q2, q4, q5, q6, q7, c_seq35 h2, x1, x2, x3, e]
  cases x4 : seqOk r.seq
  · have e : mayE r = false := by simp only [mayE, x1, x2, x3, x4, Bool.false_and, Bool.true_and]
    simp -dsimp only [go_sem, F57, e_mayE, r_mayE, q1, q2, q4, q5, q6, q7, c_seq35 h2, x1, x2, x3, x4, e]
  cases z1 : decide (r.place < 1)
  rotate_left
  · have en : placeOk r.place = false := decide_eq_false (by have := of_decide_eq_true z1; omega)
    have e : mayE r = false := by simp only [mayE, x1, x2, x3, x4, en, Bool.false_and, Bool.true_and]
    simp -dsimp only [go_sem, F57, e_mayE, r_mayE, q1, q2, q4, q5, q6, q7, c_seq35 h2, x1, x2, x3, x4, z1, e]
  cases z2 : decide ((4 : Int) < r.place)
  rotate_left
  · have en : placeOk r.place = false := decide_eq_false (by have := of_decide_eq_true z2; omega)
    have e : mayE r = false := by simp only [mayE, x1, x2, x3, x4, en, Bool.false_and, Bool.true_and]
    simp -dsimp only [go_sem, F57, e_mayE, r_mayE, q1, q2, q4, q5, q6, q7, c_seq35 h2, x1, x2, x3, x4, z1, z2, e]
  have ep : placeOk r.place = true := decide_eq_true (by have := of_decide_eq_false z1; have := of_decide_eq_false z2; omega)
  cases z3 : decide (r.from' < 1)
  rotate_left
  · have en : fromOk r.from' r.seq = false := decide_eq_false (by have := of_decide_eq_true z3; omega)
    have e : mayE r = false := by simp only [mayE, x1, x2, x3, x4, ep, en, Bool.false_and, Bool.true_and]
    simp -dsimp only [go_sem, F57, e_mayE, r_mayE, q1, q2, q4, q5, q6, q7, c_seq35 h2, x1, x2, x3, x4, z1, z2, z3, e]
  cases z4 : decide (r.seq < r.from')
  rotate_left
  · have en : fromOk r.from' r.seq = false := decide_eq_false (by have := of_decide_eq_true z4; omega)
    have e : mayE r = false := by simp only [mayE, x1, x2, x3, x4, ep, en, Bool.false_and, Bool.true_and]
    simp -dsimp only [go_sem, F57, e_mayE, r_mayE, q1, q2, q4, q5, q6, q7, c_seq35 h2, x1, x2, x3, x4, z1, z2, z3, z4, e]
  have ef : fromOk r.from' r.seq = true := decide_eq_true (by have := of_decide_eq_false z3; have := of_decide_eq_false z4; omega)
  cases x5 : longOk r.digest 64
  · have e : mayE r = false := by simp only [mayE, x1, x2, x3, x4, x5, ep, ef, Bool.false_and, Bool.true_and]
    simp -dsimp only [go_sem, F57, e_mayE, r_mayE, q1, q2, q4, q5, q6, q7, c_seq35 h2, x1, x2, x3, x4, z1, z2, z3, z4, x5, e]
  cases x6 : longOk r.pub 64
  · have e : mayE r = false := by simp only [mayE, x1, x2, x3, x4, x5, x6, ep, ef, Bool.false_and, Bool.true_and]
    simp -dsimp only [go_sem, F57, e_mayE, r_mayE, q1, q2, q4, q5, q6, q7, c_seq35 h2, x1, x2, x3, x4, z1, z2, z3, z4, x5, x6, e]
  cases x7 : chainOk r.chain r.folder r.seq
  · have e : mayE r = false := by simp only [mayE, x1, x2, x3, x4, x5, x6, x7, ep, ef, Bool.false_and, Bool.true_and]
    simp -dsimp only [go_sem, F57, e_mayE, r_mayE, q1, q2, q4, q5, q6, q7, c_seq35 h2, x1, x2, x3, x4, z1, z2, z3, z4, x5, x6, x7, e]
  have e0 : mayE r = linkOk r := by simp only [mayE, x1, x2, x3, x4, x5, x6, x7, ep, ef, Bool.true_and]
  cases y1 : decide (r.place = 1)
  · have e : mayE r = decide ((r.link.length : Int) = 0) := by
      rw [e0, linkOk, if_neg (fun h => of_decide_eq_false y1 h.1)]; exact decide_eq_decide.2 (by omega)
    simp -dsimp only [go_sem, F57, e_mayE, r_mayE, q1, q2, q4, q5, q6, q7, c_seq35 h2, x1, x2, x3, x4, z1, z2, z3, z4, x5, x6, x7, y1, e]
  cases y2 : decide (1 < r.number)
  · have e : mayE r = decide ((r.link.length : Int) = 0) := by
      rw [e0, linkOk, if_neg (fun h => of_decide_eq_false y2 h.2)]; exact decide_eq_decide.2 (by omega)
    simp -dsimp only [go_sem, F57, e_mayE, r_mayE, q1, q2, q4, q5, q6, q7, c_seq35 h2, x1, x2, x3, x4, z1, z2, z3, z4, x5, x6, x7, y1, y2, e]
  · have e : mayE r = longOk r.link 100 := by rw [e0, linkOk, if_pos ⟨of_decide_eq_true y1, of_decide_eq_true y2⟩]
    simp -dsimp only [go_sem, F57, e_mayE, r_mayE, q1, q2, q4, q5, q6, q7, c_seq35 h2, x1, x2, x3, x4, z1, z2, z3, z4, x5, x6, x7, y1, y2, e]
theorem ok_mayER {E : Env} (hp : E.prim 27 = none) (hf : E.F 27 = some F27) (h1 : E.prim 52 = some fun _ => p_nameR) (h2 : E.prim 53 = some fun _ => p_inR35) : OkS E 27 e_mayER (gd k_mayER r_mayER) := by
  refine OkS.code hp hf (fun _ => rfl) fun r hk => ?_
  obtain ⟨⟨l1, l2⟩, l4, l5, l6, l7, l8⟩ := (hk : longE r)
  have q1 := fun (S : Store) (K : AV → Store → Prop) (d : Dm K) => c_nameR h1 r.folder (by omega) (S := S) (K := K) (d := d)
  have q2 := fun (S : Store) (K : AV → Store → Prop) (d : Dm K) => c_nameR h1 r.by' (by omega) (S := S) (K := K) (d := d)
  cases x1 : nameOk r.folder
  · have e : mayE r = false := by simp only [mayE, x1, Bool.false_and, Bool.true_and]
    simp -dsimp only [go_sem, F27, e_mayER, r_mayER, q1, q2, c_inR35 h2, x1, e]
  cases x2 : nameOk r.by'
  · have e : mayE r = false := by simp only [mayE, x1, x2, Bool.false_and, Bool.true_and]
    simp -dsimp only [go_sem, F27, e_mayER, r_mayER, q1, q2, c_inR35 h2, x1, x2, e]
  have eu3 : seqOk r.number = decide (1 ≤ r.number ∧ r.number ≤ 1099511627776) := rfl
  cases u3 : decide (1 ≤ r.number ∧ r.number ≤ 1099511627776)
  · have e : mayE r = false := by simp only [mayE, eu3, x1, x2, u3, Bool.false_and, Bool.true_and]
    simp -dsimp only [go_sem, F27, e_mayER, r_mayER, q1, q2, c_inR35 h2, x1, x2, u3, e]
  have eu4 : seqOk r.seq = decide (1 ≤ r.seq ∧ r.seq ≤ 1099511627776) := rfl
  cases u4 : decide (1 ≤ r.seq ∧ r.seq ≤ 1099511627776)
  · have e : mayE r = false := by simp only [mayE, eu3, eu4, x1, x2, u3, u4, Bool.false_and, Bool.true_and]
    simp -dsimp only [go_sem, F27, e_mayER, r_mayER, q1, q2, c_inR35 h2, x1, x2, u3, u4, e]
  have eu5 : placeOk r.place = decide (1 ≤ r.place ∧ r.place ≤ 4) := rfl
  cases u5 : decide (1 ≤ r.place ∧ r.place ≤ 4)
  · have e : mayE r = false := by simp only [mayE, eu3, eu4, eu5, x1, x2, u3, u4, u5, Bool.false_and, Bool.true_and]
    simp -dsimp only [go_sem, F27, e_mayER, r_mayER, q1, q2, c_inR35 h2, x1, x2, u3, u4, u5, e]
  have eu6 : fromOk r.from' r.seq = decide (1 ≤ r.from' ∧ r.from' ≤ r.seq) := rfl
  cases u6 : decide (1 ≤ r.from' ∧ r.from' ≤ r.seq)
  · have e : mayE r = false := by simp only [mayE, eu3, eu4, eu5, eu6, x1, x2, u3, u4, u5, u6, Bool.false_and, Bool.true_and]
    simp -dsimp only [go_sem, F27, e_mayER, r_mayER, q1, q2, c_inR35 h2, x1, x2, u3, u4, u5, u6, e]
  have eu7 : longOk r.digest 64 = decide (1 ≤ (r.digest.length : Int) ∧ (r.digest.length : Int) ≤ 64) := rfl
  cases u7 : decide (1 ≤ (r.digest.length : Int) ∧ (r.digest.length : Int) ≤ 64)
  · have e : mayE r = false := by simp only [mayE, eu3, eu4, eu5, eu6, eu7, x1, x2, u3, u4, u5, u6, u7, Bool.false_and, Bool.true_and]
    simp -dsimp only [go_sem, F27, e_mayER, r_mayER, q1, q2, c_inR35 h2, x1, x2, u3, u4, u5, u6, u7, e]
  have eu8 : longOk r.pub 64 = decide (1 ≤ (r.pub.length : Int) ∧ (r.pub.length : Int) ≤ 64) := rfl
  cases u8 : decide (1 ≤ (r.pub.length : Int) ∧ (r.pub.length : Int) ≤ 64)
  · have e : mayE r = false := by simp only [mayE, eu3, eu4, eu5, eu6, eu7, eu8, x1, x2, u3, u4, u5, u6, u7, u8, Bool.false_and, Bool.true_and]
    simp -dsimp only [go_sem, F27, e_mayER, r_mayER, q1, q2, c_inR35 h2, x1, x2, u3, u4, u5, u6, u7, u8, e]
  have eu9 : few4 r.chain = decide (1 ≤ (r.chain.length : Int) ∧ (r.chain.length : Int) ≤ 4) := rfl
  cases u9 : decide (1 ≤ (r.chain.length : Int) ∧ (r.chain.length : Int) ≤ 4)
  · have e : mayE r = false := by simp only [mayE, chainOk, eu3, eu4, eu5, eu6, eu7, eu8, eu9, x1, x2, u3, u4, u5, u6, u7, u8, u9, Bool.false_and, Bool.true_and]
    simp -dsimp only [go_sem, F27, e_mayER, r_mayER, q1, q2, c_inR35 h2, x1, x2, u3, u4, u5, u6, u7, u8, u9, e]
  have z9 := of_decide_eq_true u9
  have e0 : mayE r = (headIs r.chain r.folder r.seq && atsOk r.chain && linkOk r) := by simp only [mayE, chainOk, eu3, eu4, eu5, eu6, eu7, eu8, eu9, x1, x2, u3, u4, u5, u6, u7, u8, u9, Bool.true_and]
  simp -dsimp only [go_sem, F27, e_mayER, r_mayER, q1, q2, c_inR35 h2, x1, x2, u3, u4, u5, u6, u7, u8, u9]
  refine Ex.count (n := r.chain.length) (i0 := 0) (fun i g T => g 1 = .ptr 0 0 ∧ T = [.cells (epoL r)] ∧ atsOk (r.chain.take i) = true) (by decide) (by omega) rfl (by omega) ⟨rfl, rfl, rfl⟩ ?_ ?_ ?_
  · rintro i g T hi gi ⟨g1, rfl, hI⟩
    simp -dsimp only [go_sem, gi, g1]
  · rintro i g T hi gi ⟨g1, rfl, hI⟩
    have cn := fun (T : Store) (K : AV → Store → Prop) (q : Dm K) => c_nameR h1 r.chain[i].name (l8 _ (List.getElem_mem hi)) (S := T) (K := K) (d := q)
    have bad : (nameOk r.chain[i].name && seqOk r.chain[i].role) = false → mayE r = false := fun h => by
      have : atsOk r.chain = false := by
        rw [atsOk, Bool.eq_false_iff]
        intro q
        have := List.all_eq_true.1 q _ (List.getElem_mem hi)
        rw [h] at this; cases this
      rw [e0, this, Bool.and_false, Bool.false_and]
    cases v1 : nameOk r.chain[i].name
    · have e := bad (by rw [v1]; rfl)
      simp -dsimp only [go_sem, gi, g1, ia_enc .i64 hi, c_mem, cn, v1, F27, r_mayER, e]
    have ev2 : seqOk r.chain[i].role = decide (1 ≤ r.chain[i].role ∧ r.chain[i].role ≤ 1099511627776) := rfl
    cases v2 : decide (1 ≤ r.chain[i].role ∧ r.chain[i].role ≤ 1099511627776)
    · have e := bad (by rw [v1, ev2, v2]; rfl)
      simp -dsimp only [go_sem, gi, g1, ia_enc .i64 hi, c_mem, cn, v1, c_inR35 h2, v2, F27, r_mayER, e]
    · simp -dsimp only [go_sem, gi, g1, ia_enc .i64 hi, c_mem, cn, v1, c_inR35 h2, v2]
      rw [List.take_succ_eq_append_getElem hi, atsOk, List.all_append]
      simp only [List.all_cons, List.all_nil, v1, ev2, v2, Bool.and_true]
      exact hI
  · rintro g T gi ⟨g1, rfl, hI⟩
    rw [List.take_length] at hI
    have i0 : iaddrA 2 (enc r.chain) (.int .i64 0) = some (.cptr (Rec.c r.chain[0] ++ cl (r.chain.drop 1))) := ia_enc (i := 0) .i64 (by omega) rfl
    have hh : r.chain.headD ⟨[], 0⟩ = r.chain[0] := by rw [List.headD_eq_head?_getD, List.head?_eq_getElem?, List.getElem?_eq_getElem (by omega)]; rfl
    rw [hI, headIs, hh, Bool.and_true] at e0
    cases v3 : decide (r.chain[0].name = r.folder)
    · have e : mayE r = false := by rw [e0, v3, Bool.false_and, Bool.false_and]
      simp -dsimp only [go_sem, gi, g1, i0, c_mem, v3, F27, r_mayER, e]
    cases v4 : decide (r.chain[0].role = r.seq)
    · have e : mayE r = false := by rw [e0, v3, v4, Bool.true_and, Bool.false_and]
      simp -dsimp only [go_sem, gi, g1, i0, c_mem, v3, v4, F27, r_mayER, e]
    have e0 : mayE r = linkOk r := by rw [e0, v3, v4, Bool.true_and, Bool.true_and]
    cases y1 : decide (r.place = 1)
    · have e : mayE r = decide ((r.link.length : Int) = 0) := by
        rw [e0, linkOk, if_neg (fun h => of_decide_eq_false y1 h.1)]; exact decide_eq_decide.2 (by omega)
      simp -dsimp only [go_sem, gi, g1, i0, c_mem, v3, v4, y1, F27, r_mayER, e]
    cases y2 : decide (1 < r.number)
    · have e : mayE r = decide ((r.link.length : Int) = 0) := by
        rw [e0, linkOk, if_neg (fun h => of_decide_eq_false y2 h.2)]; exact decide_eq_decide.2 (by omega)
      simp -dsimp only [go_sem, gi, g1, i0, c_mem, v3, v4, y1, y2, F27, r_mayER, e]
    · have e : mayE r = decide (1 ≤ (r.link.length : Int) ∧ (r.link.length : Int) ≤ 100) := by rw [e0, linkOk, if_pos ⟨of_decide_eq_true y1, of_decide_eq_true y2⟩]; rfl
      simp -dsimp only [go_sem, gi, g1, i0, c_mem, v3, v4, y1, y2, c_inR35 h2, F27, r_mayER, e]
end Go.Proofs.YtaajlbbooneiiaaDoor.Avm
set_option linter.unusedVariables false
set_option linter.unusedSimpArgs false
set_option maxRecDepth 10000
namespace Go.Proofs.YtaajlbbooneiiaaDoor.Avm

structure MayE (r : EpoR) : Prop where
  n1 : r.folder.length ≤ 12
  n2 : r.by'.length ≤ 12
  num : 1 ≤ r.number ∧ r.number ≤ 1099511627776
  seq : 1 ≤ r.seq ∧ r.seq ≤ 1099511627776
  place : 1 ≤ r.place ∧ r.place ≤ 4
  frm : 1 ≤ r.from' ∧ r.from' ≤ r.seq
  dig : r.digest.length ≤ 64
  pub : r.pub.length ≤ 64
  link : r.link.length ≤ 100
  chain : r.chain.length ≤ 4 ∧ ∀ x, x ∈ r.chain → x.name.length ≤ 12 ∧ 1 ≤ x.role ∧ x.role ≤ 1099511627776
theorem mayE_get {r : EpoR} (h : mayE r = true) : MayE r := by
  simp only [mayE, chainOk, Bool.and_eq_true] at h
  obtain ⟨a1, a2, a3, a4, a5, a6, a7, a8, ⟨a9, a10, a11⟩, a12⟩ := h
  have b7 := of_decide_eq_true a7
  have b8 := of_decide_eq_true a8
  have b9 := of_decide_eq_true a9
  have b12 : r.link.length ≤ 100 := by
    unfold linkOk at a12
    split at a12
    · have := of_decide_eq_true a12; omega
    · have := of_decide_eq_true a12; omega
  refine ⟨name_len a1, name_len a2, of_decide_eq_true a3, of_decide_eq_true a4, of_decide_eq_true a5, of_decide_eq_true a6, by omega, by omega, b12, by omega, fun x hx => ?_⟩
  have := List.all_eq_true.1 a11 x hx
  rw [Bool.and_eq_true] at this
  exact ⟨name_len this.1, of_decide_eq_true this.2⟩
theorem right_at {x : Mem} (h : x.name.length ≤ 12 ∧ 1 ≤ x.role ∧ x.role ≤ 1099511627776) : pureA (memV x) = true ∧ deepA (memV x) ≤ 1 ∧ (bytesA (memV x)).length ≤ 29 := by
  refine ⟨pure_list (by simp) fun w hw => ?_, deep_list (d := 0) fun w hw => ?_, ?_⟩
  · simp only [List.mem_cons, List.not_mem_nil, or_false] at hw
    rcases hw with rfl | rfl
    · exact pure_raw (by omega)
    · exact pure_num (by omega) (by omega)
  · simp only [List.mem_cons, List.not_mem_nil, or_false] at hw
    rcases hw with rfl | rfl
    · rw [deep_raw]; exact Nat.le_refl _
    · rw [deep_num]; exact Nat.le_refl _
  · have h1 := len_raw (b := x.name) (by omega)
    have h2 := len_num x.role
    rw [memV, len_list (by simp)]
    simp only [bytesAL, List.length_append, List.length_nil]; omega
theorem right_epo {r : EpoR} (h : mayE r = true) : rightV (epoV r) := by
  obtain ⟨n1, n2, a3, a4, a5, a6, a7, a8, a9, a10, a11⟩ := mayE_get h
  have hms : ∀ w, w ∈ r.chain.map memV → pureA w = true ∧ deepA w ≤ 1 ∧ (bytesA w).length ≤ 29 := fun w hw => by
    obtain ⟨x, hx, rfl⟩ := List.mem_map.1 hw
    exact right_at (a11 x hx)
  have hml : (r.chain.map memV).length ≤ 4 := by simpa using a10
  refine right_11 rfl fun w hw => ?_
  simp only [epoVs, List.mem_cons, List.not_mem_nil, or_false] at hw
  rcases hw with rfl | rfl | rfl | rfl | rfl | rfl | rfl | rfl | rfl | rfl | rfl
  · exact good_raw (by decide)
  · exact good_raw (by omega)
  · exact good_num (by omega) (by omega)
  · exact good_num (by omega) (by omega)
  · exact good_num (by omega) (by omega)
  · exact good_num (by omega) (by omega)
  · exact good_raw (by omega)
  · refine ⟨pure_list (by omega) fun w hw => (hms w hw).1, deep_list fun w hw => (hms w hw).2.1, ?_⟩
    have h1 := bytesAL_le (c := 29) fun w hw => (hms w hw).2.2
    have h2 := Nat.mul_le_mul_right 29 hml
    rw [len_list (by omega)]; omega
  · exact good_raw (by omega)
  · exact good_raw (by omega)
  · exact good_raw (by omega)
theorem enc_epo (r : EpoR) : enc (epoVs r) = .csl [.int .i64 2, .int .i64 0, enc markE, enc ([] : List Val), .int .i64 2, .int .i64 0, enc r.folder, enc ([] : List Val),
        .int .i64 1, .int .i64 r.number, enc ([] : List UInt8), enc ([] : List Val), .int .i64 1, .int .i64 r.place, enc ([] : List UInt8), enc ([] : List Val), .int .i64 1, .int .i64 r.from', enc ([] : List UInt8), enc ([] : List Val), .int .i64 1, .int .i64 r.seq, enc ([] : List UInt8), enc ([] : List Val),
        .int .i64 2, .int .i64 0, enc r.digest, enc ([] : List Val), .int .i64 3, .int .i64 0, enc ([] : List UInt8), enc (r.chain.map memV), .int .i64 2, .int .i64 0, enc r.pub, enc ([] : List Val), .int .i64 2, .int .i64 0, enc r.link, enc ([] : List Val),
        .int .i64 2, .int .i64 0, enc r.by', enc ([] : List Val)] 11 := by
  rw [enc]
  simp only [epoVs, cl_cons, cl_nil, c_val, valL, rawV, numV, listV, k_mk, n_mk, b_mk, l_mk, List.length_cons, List.length_nil]
  rfl
theorem ok_textE {E : Env} (hp : E.prim 26 = none) (hf : E.F 26 = some F26) (h1 : E.prim 57 = some fun _ => p_mayE) (h2 : E.prim 40 = some fun _ => p_of02) (h3 : E.prim 51 = some fun _ => p_text35)
    (h4 : E.prim 41 = some fun _ => p_num02) (h5 : E.prim 42 = some fun _ => p_raw02) (h7 : E.prim 43 = some fun _ => p_encode) : OkG E 26 e_textE (gd k_textE r_textE) := by
  refine OkG.code hp hf (fun _ => rfl) fun m S hk => ?_
  have cm : ∀ (S : Store) (K : AV → Store → Prop) (d : Dm K), SpD E 57 [.agg (epoL m)] S K d = K (.bool (mayE m)) S := fun _ _ _ => c_mayE h1 m hk
  cases y1 : mayE m
  · have ht : textEP m = ([], 2) := if_neg (by simp [y1])
    simp -dsimp only [go_sem, F26, e_textE, r_textE, cm, y1, ht]
    exact conv_pair (List.prefix_append _ _) (fun i h => by simp [topIds] at h) rfl
  have ht : textEP m = (bytesA (epoV m), 0) := if_pos y1
  have hr := right_epo y1
  have he := encode_ok hr
  obtain ⟨n1, n2, a3, a4, a5, a6, a7, a8, a9, a10, a11⟩ := mayE_get y1
  have co := fun (T : Store) (K : AV → Store → Prop) (q : Dm K) => c_of02 h2 .nilS rfl (S := T) (K := K) (d := q)
  simp -dsimp only [go_sem, F26, e_textE, r_textE, cm, y1, ht, co]
  refine Ex.range (n := m.chain.length) (fun i g T => g 1 = .ptr S.length 0 ∧ g 4 = .ptr (S.length + 1) 0 ∧ g 12 = enc m.chain ∧ ∃ (y : AV) (R : Store), T = S ++ (.cells (epoL m) :: .cells [.int .i64 3, .int .i64 0, enc ([] : List UInt8), y] :: R) ∧
    OwnR (S.length + 2) R y ((m.chain.take i).map memV)) (by decide) (by omega) rfl rfl ⟨rfl, rfl, rfl, .nilS, [], rfl, .inl ⟨rfl, rfl⟩⟩ ?_ ?_
  · rintro i g T hi gi gn ⟨g1, g4, g12, y, R, rfl, hR⟩
    have hm := a11 _ (List.getElem_mem hi)
    have cw := fun (T : Store) (K : AV → Store → Prop) (q : Dm K) => c_text35 h3 m.chain[i].name (by omega) (S := T) (K := K) (d := q)
    simp -dsimp only [go_sem, gi, gn, g1, g4, g12, ia_enc .i64 hi, ld_enc, c_mem]
    refine ExF.intro ?_
    have co2 := fun (T : Store) (K : AV → Store → Prop) (q : Dm K) => c_of02 h2 (enc [rawV m.chain[i].name, numV m.chain[i].role]) rfl (S := T) (K := K) (d := q)
    simp -dsimp only [go_sem, gi, gn, g1, g4, g12, cw, c_num02 h4, valL, enc_rn, co2, enc_l1]
    have hO : OwnL (S ++ [.cells (epoL m), .cells [.int .i64 3, .int .i64 0, enc ([] : List UInt8), y]]) _ y _ := OwnR.own (R := R ++ [.cells [.str m.chain[i].name, .int .i64 m.chain[i].role]]) (by simpa using hR.more _)
    simp only [List.append_assoc, List.cons_append, List.nil_append] at hO
    refine OwnL.app hO rfl (el_enc _ rfl) ?_ fun y' T' hO' hK hi' => ?_
    · simp only [List.length_singleton, List.length_map, List.length_take]; omega
    obtain ⟨R', rfl⟩ := hO'.1
    have hR' := hO'.ownR
    have yc := hO'.cells1
    simp only [List.append_assoc, List.cons_append, List.nil_append]
    simp -dsimp only [go_sem, gi, gn, g1, g4, g12, yc]
    refine ⟨⟨y', R', rfl, ?_⟩, ?_⟩
    · rw [List.take_succ_eq_append_getElem hi, List.map_append]; simpa [memV] using hR'
    · (repeat' (first | exact fl_ld rfl rfl rfl rfl (flLd_n _ _ _ _ _ _ (by simp -dsimp only [go_sem, g1, g4, g12])) | exact fl_b2s rfl rfl rfl rfl (by simp -dsimp only [go_sem, g1, g4, g12]) | apply And.intro))
  · rintro g T gi ⟨g1, g4, g12, y, R, rfl, hR⟩
    rw [List.take_length] at hR
    simp -dsimp only [go_sem, gi, g1, g4, g12]
    refine ExF.intro ?_
    have cw1 : ∀ (T : Store) (K : AV → Store → Prop) (q : Dm K), SpD E 51 [.str [101, 112, 111, 99, 104]] T K q = K (.agg (valL (rawV markE))) T := fun T K q => c_text35 h3 markE (by decide)
    have cw2 := fun (T : Store) (K : AV → Store → Prop) (q : Dm K) => c_text35 h3 m.folder (by omega) (S := T) (K := K) (d := q)
    have cw3 := fun (T : Store) (K : AV → Store → Prop) (q : Dm K) => c_text35 h3 m.by' (by omega) (S := T) (K := K) (d := q)
    simp -dsimp only [go_sem, gi, g1, g4, g12, cw1, cw2, cw3, c_num02 h4, c_raw02 h5, valL]
    have hO : OwnL (S ++ [.cells (epoL m), .cells [.int .i64 3, .int .i64 0, enc ([] : List UInt8), y]]) _ y _ := OwnR.own (R := R) (by simpa using hR)
    simp only [List.append_assoc, List.cons_append, List.nil_append] at hO
    have hrd := hO.rd
    have co3 := fun (l : List AV) (n : Nat) (T : Store) (K : AV → Store → Prop) (q : Dm K) => c_of02 h2 (.csl l n) rfl (S := T) (K := K) (d := q)
    have hval : rdS (S ++ AObj.cells (epoL m) :: AObj.cells [AV.int IntKind.i64 3, AV.int IntKind.i64 0, enc ([] : List UInt8), y] :: R) (.agg [.int .i64 3, .int .i64 0, enc ([] : List UInt8), .csl [.int .i64 2, .int .i64 0, enc markE, enc ([] : List Val), .int .i64 2, .int .i64 0, enc m.folder, enc ([] : List Val),
        .int .i64 1, .int .i64 m.number, enc ([] : List UInt8), enc ([] : List Val), .int .i64 1, .int .i64 m.place, enc ([] : List UInt8), enc ([] : List Val), .int .i64 1, .int .i64 m.from', enc ([] : List UInt8), enc ([] : List Val), .int .i64 1, .int .i64 m.seq, enc ([] : List UInt8), enc ([] : List Val),
        .int .i64 2, .int .i64 0, enc m.digest, enc ([] : List Val), .int .i64 3, .int .i64 0, enc ([] : List UInt8), y, .int .i64 2, .int .i64 0, enc m.pub, enc ([] : List Val), .int .i64 2, .int .i64 0, enc m.link, enc ([] : List Val),
        .int .i64 2, .int .i64 0, enc m.by', enc ([] : List Val)] 11]) = some (.agg (valL (epoV m))) := by
      simp only [rdS, rdSL, rd0, enc_rdS, hrd, Option.bind_some, Option.map_some]
      show _ = some (AV.agg [.int .i64 3, .int .i64 0, enc ([] : List UInt8), enc (epoVs m)])
      rw [enc_epo]
    have ce := fun (K : AV → Store → Prop) (q : Dm K) => c_encode' h7 hval (K := K) (d := q)
    simp -dsimp only [go_sem, co3, ce, he]
    refine ⟨?_, ?_⟩
    · simp -dsimp only [go_sem, F26, r_textE, ht]
      have htop : ∀ i, i ∈ topIdsL [AV.agg [AV.int IntKind.i64 3, AV.int IntKind.i64 0, enc ([] : List UInt8), AV.csl [AV.int IntKind.i64 2, AV.int IntKind.i64 0, enc markE, enc ([] : List Val), .int .i64 2, .int .i64 0, enc m.folder, enc ([] : List Val),
        .int .i64 1, .int .i64 m.number, enc ([] : List UInt8), enc ([] : List Val), .int .i64 1, .int .i64 m.place, enc ([] : List UInt8), enc ([] : List Val), .int .i64 1, .int .i64 m.from', enc ([] : List UInt8), enc ([] : List Val), .int .i64 1, .int .i64 m.seq, enc ([] : List UInt8), enc ([] : List Val),
        .int .i64 2, .int .i64 0, enc m.digest, enc ([] : List Val), .int .i64 3, .int .i64 0, enc ([] : List UInt8), y, .int .i64 2, .int .i64 0, enc m.pub, enc ([] : List Val), .int .i64 2, .int .i64 0, enc m.link, enc ([] : List Val),
        .int .i64 2, .int .i64 0, enc m.by', enc ([] : List Val)] 11]] → S.length ≤ i := fun i hi => by
        simp only [topIdsL, topIds, enc_top, List.nil_append, List.append_nil] at hi
        have := hO.ids i hi
        simp at this; omega
      exact conv_pair (x := enc (bytesA (epoV m))) (prefix_kill (List.prefix_append _ _) _ htop) (fun i h => by simp [enc_top] at h) (enc_rdS _ _)
    · (repeat' (first | exact fl_ld rfl rfl rfl rfl (flLd_n _ _ _ _ _ _ (by simp -dsimp only [go_sem, g1, g4, g12])) | exact fl_b2s rfl rfl rfl rfl (by simp -dsimp only [go_sem, g1, g4, g12]) | apply And.intro))
theorem ok_textER {E : Env} (hp : E.prim 29 = none) (hf : E.F 29 = some F29) (h2 : E.prim 47 = some fun _ => p_ofR28) (h3 : E.prim 55 = some fun _ => p_textR35)
    (h4 : E.prim 44 = some fun _ => p_numR28) (h5 : E.prim 45 = some fun _ => p_rawR28) (h7 : E.prim 46 = some fun _ => p_bytesR 17) : OkG E 29 e_textER (gd k_textER r_textER) := by
  refine OkG.code hp hf (fun _ => rfl) fun m S hk => ?_
  have y1 : mayE m = true := hk
  have hr := right_epo y1
  obtain ⟨n1, n2, a3, a4, a5, a6, a7, a8, a9, a10, a11⟩ := mayE_get y1
  simp -dsimp only [go_sem, F29, e_textER, r_textER]
  refine Ex.count (n := m.chain.length) (i0 := 0) (fun i g T => g 1 = .ptr S.length 0 ∧ OwnL (S ++ [.cells (epoL m)]) T (g 3) ((m.chain.take i).map memV)) (by decide) (by omega) rfl (by omega) ⟨rfl, OwnL.nil List.prefix_rfl⟩ ?_ ?_ ?_
  · rintro i g T hi gi ⟨g1, hO⟩
    have b1 : T[S.length]? = some (.cells (epoL m)) := prefix_get hO.1 (get_new0 _ _)
    simp -dsimp only [go_sem, gi, g1, b1]
  · rintro i g T hi gi ⟨g1, hO⟩
    have b1 : T[S.length]? = some (.cells (epoL m)) := prefix_get hO.1 (get_new0 _ _)
    have hm := a11 _ (List.getElem_mem hi)
    have cw := fun (T : Store) (K : AV → Store → Prop) (q : Dm K) => c_textR35 h3 m.chain[i].name (by omega) (S := T) (K := K) (d := q)
    have co2 : ∀ (T : Store) (K : AV → Store → Prop) (q : Dm K), SpD E 47 [enc [rawV m.chain[i].name, numV m.chain[i].role]] T K q = K (.agg [.int .i64 3, .int .i64 0, enc ([] : List UInt8), enc [rawV m.chain[i].name, numV m.chain[i].role]]) T := fun T K q => c_ofR28 h2 _
    simp -dsimp only [go_sem, gi, g1]
    refine ExF.intro ?_
    simp -dsimp only [go_sem, gi, g1, b1, ia_enc .i64 hi, c_mem, cw, c_numR28 h4, valL, enc_rn, co2, enc_l1]
    refine OwnL.app hO rfl (el_enc _ rfl) ?_ fun y' T' hO' hK hi' => ?_
    · simp only [List.length_singleton, List.length_map, List.length_take]; omega
    simp -dsimp only [go_sem, gi, g1]
    refine ⟨?_, ?_⟩
    · rw [List.take_succ_eq_append_getElem hi, List.map_append]; simpa [memV] using hO'
    · (repeat' (first | exact fl_ld rfl rfl rfl rfl (flLd_n _ _ _ _ _ _ (by simp -dsimp only [go_sem, gi, g1, b1, ia_enc .i64 hi, c_mem])) | exact fl_b2s rfl rfl rfl rfl (by simp -dsimp only [go_sem, gi, g1, b1, ia_enc .i64 hi, c_mem]) | apply And.intro))
  · rintro g T gi ⟨g1, hO⟩
    rw [List.take_length] at hO
    have b1 : T[S.length]? = some (.cells (epoL m)) := prefix_get hO.1 (get_new0 _ _)
    have cw1 : ∀ (T : Store) (K : AV → Store → Prop) (q : Dm K), SpD E 55 [.str [101, 112, 111, 99, 104]] T K q = K (.agg (valL (rawV markE))) T := fun T K q => c_textR35 h3 markE (by decide)
    have cw2 := fun (T : Store) (K : AV → Store → Prop) (q : Dm K) => c_textR35 h3 m.folder (by omega) (S := T) (K := K) (d := q)
    have cw3 := fun (T : Store) (K : AV → Store → Prop) (q : Dm K) => c_textR35 h3 m.by' (by omega) (S := T) (K := K) (d := q)
    have hrd := hO.rd
    have hids := hO.ids
    obtain ⟨R, rfl⟩ := hO.1
    simp only [List.append_assoc, List.cons_append, List.nil_append] at hO hrd b1 ⊢
    obtain ⟨y, hy⟩ : ∃ y, g 3 = y := ⟨_, rfl⟩
    rw [hy] at hO hrd hids
    have co3 := fun (K : AV → Store → Prop) (q : Dm K) => c_ofR28' h2 hrd (K := K) (d := q)
    have b2 : (killL (topIdsL [y]) (S ++ AObj.cells (epoL m) :: R))[S.length]? = some (.cells (epoL m)) := by
      rw [killL_ne _ _ _ (fun h => by
        simp only [topIdsL, List.append_nil] at h
        have := hids _ h; rw [List.length_append, List.length_singleton] at this; omega), get_new0]; rfl
    have hpk : S <+: killL (topIdsL [y]) (S ++ AObj.cells (epoL m) :: R) := prefix_kill (List.prefix_append _ _) _ fun i h => by
      simp only [topIdsL, List.append_nil] at h
      have := hids _ h; simp at this; omega
    have co4 : ∀ (T : Store) (K : AV → Store → Prop) (q : Dm K), SpD E 47 [enc (epoVs m)] T K q = K (.agg (valL (epoV m))) T := fun T K q => c_ofR28 h2 _
    have cb := fun (T : Store) (K : AV → Store → Prop) (q : Dm K) => c_bytesR h7 (epoV m) ⟨hr.1, by have := hr.2.1; omega, by have := hr.2.2; omega⟩ (S := T) (K := K) (d := q)
    have em := (enc_epo m).symm
    simp -dsimp only [go_sem, gi, g1, b1, b2]
    refine ExF.intro ?_
    simp -dsimp only [go_sem, gi, g1, b1, b2, hy, cw1, cw2, cw3, c_rawR28 h5, c_numR28 h4, valL, co3, em, co4]
    simp -dsimp only [go_sem, cb, F29]
    refine ⟨Conv.good hpk (fun i h => by simp [enc_top] at h) (enc_rdS _ _), ?_⟩
    (repeat' (first | exact fl_ld rfl rfl rfl rfl (flLd_n _ _ _ _ _ _ (by simp -dsimp only [go_sem, g1, b1, b2])) | exact fl_b2s rfl rfl rfl rfl (by simp -dsimp only [go_sem, g1, b1, b2]) | apply And.intro))
end Go.Proofs.YtaajlbbooneiiaaDoor.Avm
set_option linter.unusedVariables false
set_option linter.unusedSimpArgs false
set_option maxRecDepth 10000
namespace Go.Proofs.YtaajlbbooneiiaaDoor.Avm

def readERD (d : Val × Int) (b : List UInt8) : EpoR × Int :=
  if d.2 ≠ 0 then (epo0, d.2)
  else if (fieldsP d.1 ksE).2 = false then (epo0, 11)
  else (memsOf (at0 d.1.list 7).list).elim (epo0, 11) fun ms => if mayE (epoOf d.1.list ms) = false ∨ bytesA (epoV (epoOf d.1.list ms)) ≠ b then (epo0, 11) else (epoOf d.1.list ms, 0)
theorem rd_epo (T : Store) {a y0 : Str} {n p f s : Int} {c1 c2 c3 y : AV} {d1 d2 d3 : List UInt8} {ms : List Mem} (h1 : rdS T c1 = some (enc d1)) (hy : rdS T y = some (enc ms)) (h2 : rdS T c2 = some (enc d2)) (h3 : rdS T c3 = some (enc d3)) :
    rdS T (.agg [.str a, .int .i64 n, .int .i64 p, .int .i64 f, .int .i64 s, c1, y, c2, c3, .str y0]) = some (.agg (epoL ⟨a, n, p, f, s, d1, ms, d2, d3, y0⟩)) := by
  simp only [rdS, rdSL, rd0, h1, h2, h3, hy, Option.bind_some, Option.map_some]
theorem epoOf_long {l : List Val} {ms : List Mem} (h : ∀ w, w ∈ l → pureA w = true) (hm : ms.length ≤ 4096) (hx : ∀ x, x ∈ ms → x.name.length ≤ 1048576) : longE (epoOf l ms) := by
  have b1 := at_len h 1
  have b6 := at_len h 6
  have b8 := at_len h 8
  have b9 := at_len h 9
  have b10 := at_len h 10
  exact ⟨⟨by simp only [epoOf]; omega, by simp only [epoOf]; omega⟩, by simp only [epoOf]; omega, by simp only [epoOf]; omega, by simp only [epoOf]; omega, by simp only [epoOf]; omega, fun x hxm => by have := hx x hxm; omega⟩
theorem epo_iff {v : Val} (hr : rightV v) (hf : (fieldsP v ksE).2 = true) {ms : List Mem} (hm : memsOf (at0 v.list 7).list = some ms) (hmay : mayE (epoOf v.list ms) = true) :
    bytesA (epoV (epoOf v.list ms)) = bytesA v ↔ (at0 v.list 0).bytes = markE := by
  obtain ⟨f1, f2, f3, f4⟩ := fields_len hf
  have f2 : v.list.length = 11 := f2
  have hl := len11 f2
  have hp := pureA_list hr.1
  have f4' := f4
  rw [hl] at f4'
  simp only [List.map_cons, List.map_nil, ksE, List.cons.injEq, and_true] at f4'
  obtain ⟨k0, k1, k2, k3, k4, k5, k6, k7, k8, k9, k10⟩ := f4'
  have hat : ∀ i, i < 11 → pureA (at0 v.list i) = true := fun i hi => by rw [← at0_get (by omega)]; exact hp _ (List.getElem_mem _)
  have e0 := pure_raw_eq (hat 0 (by omega)) k0
  have e1 := pure_raw_eq (hat 1 (by omega)) k1
  have e2 := pure_num_eq (hat 2 (by omega)) k2
  have e3 := pure_num_eq (hat 3 (by omega)) k3
  have e4 := pure_num_eq (hat 4 (by omega)) k4
  have e5 := pure_num_eq (hat 5 (by omega)) k5
  have e6 := pure_raw_eq (hat 6 (by omega)) k6
  have e7 := pure_list_eq (hat 7 (by omega)) k7
  have e8 := pure_raw_eq (hat 8 (by omega)) k8
  have e9 := pure_raw_eq (hat 9 (by omega)) k9
  have e10 := pure_raw_eq (hat 10 (by omega)) k10
  have ev := pure_list_eq hr.1 f3
  have hms := mems_back2 (at_list hp 7) hm
  constructor
  · intro h
    have := bytesA_inj (right_epo hmay) hr h
    rw [ev] at this
    simp only [epoV, listV, Val.mk.injEq, true_and] at this
    rw [hl] at this
    simp only [epoVs, List.cons.injEq, and_true] at this
    rw [← this.1]; rfl
  · intro h1
    have : epoV (epoOf v.list ms) = v := by
      conv => rhs; rw [ev, hl, e0, e1, e2, e3, e4, e5, e6, e7, e8, e9, e10]
      simp only [epoV, epoVs, h1]
      rw [show (epoOf v.list ms).chain = ms from rfl, hms]; rfl
    rw [this]
theorem readERD_0 (v : Val) (b : List UInt8) : readERD (v, 0) b = if (fieldsP v ksE).2 = false then (epo0, 11) else (memsOf (at0 v.list 7).list).elim (epo0, 11) fun ms => if mayE (epoOf v.list ms) = false ∨ bytesA (epoV (epoOf v.list ms)) ≠ b then (epo0, 11) else (epoOf v.list ms, 0) := by
  unfold readERD; rw [if_neg (by simp)]
theorem readED_0 (v : Val) : readED (v, 0) = if (fieldsP v ksE).2 = false ∨ (at0 v.list 0).bytes ≠ markE then (epo0, 11) else (memsOf (at0 v.list 7).list).elim (epo0, 11) fun ms => if mayE (epoOf v.list ms) = false then (epo0, 11) else (epoOf v.list ms, 0) := by
  unfold readED; rw [if_neg (by simp)]
theorem readER_eq (b : List UInt8) : readERD (decodeP b) b = readE b := by
  obtain ⟨d, hd⟩ : ∃ d, decodeP b = d := ⟨_, rfl⟩
  rw [readE, hd]
  by_cases h0 : d.2 = 0
  · obtain ⟨v, e⟩ := d
    simp only at h0
    subst h0
    obtain ⟨hr, hb⟩ := decode_inv hd
    rw [readERD_0, readED_0]
    cases hf : (fieldsP v ksE).2 with
    | false => rw [if_pos rfl, if_pos (.inl rfl)]
    | true =>
      rw [if_neg (by decide)]
      by_cases hmk : (at0 v.list 0).bytes = markE
      · rw [if_neg (fun h => h.elim (fun h => by cases h) fun h => h hmk)]
        cases hm : memsOf (at0 v.list 7).list with
        | none => rfl
        | some ms =>
          simp only [Option.elim_some]
          cases hy : mayE (epoOf v.list ms) with
          | false => rw [if_pos (.inl rfl), if_pos rfl]
          | true =>
            have hi := (epo_iff hr hf hm hy).2 hmk
            rw [if_neg (fun h => h.elim (fun h => by cases h) fun h => h (hi.trans hb.symm)), if_neg (by decide)]
      · rw [if_pos (.inr hmk)]
        cases hm : memsOf (at0 v.list 7).list with
        | none => rfl
        | some ms =>
          simp only [Option.elim_some]
          cases hy : mayE (epoOf v.list ms) with
          | false => rw [if_pos (.inl rfl)]
          | true => rw [if_pos (.inr fun q => hmk ((epo_iff hr hf hm hy).1 (q.trans hb)))]
  · unfold readERD readED; rw [if_pos h0, if_pos h0]
theorem read_epo {r : EpoR} (h : mayE r = true) : readE (bytesA (epoV r)) = (r, 0) := by
  have hf : (fieldsP (epoV r) ksE).2 = true := by simp [fieldsP, epoV, epoVs, listV, rawV, numV, Val.kind, Val.list, ksE]
  rw [readE, decode_put (right_epo h)]
  unfold readED
  rw [if_neg (by simp), if_neg (fun q => q.elim (fun q => by rw [hf] at q; cases q) fun q => q rfl)]
  show (memsOf (r.chain.map memV)).elim _ _ = _
  rw [mems_back]
  show (if mayE r = false then _ else _) = _
  rw [if_neg (by rw [h]; decide)]
  rfl
theorem read_invE {b : List UInt8} {r : EpoR} (h : readE b = (r, 0)) : mayE r = true ∧ bytesA (epoV r) = b := by
  rw [← readER_eq] at h
  unfold readERD at h
  split at h
  · rename_i h0; exact absurd (congrArg (·.2) h) h0
  · split at h
    · cases h
    · cases hm : memsOf (at0 (decodeP b).1.list 7).list with
      | none => rw [hm] at h; cases h
      | some ms =>
        rw [hm] at h
        simp only [Option.elim_some] at h
        split at h
        · cases h
        · rename_i h2
          simp only [not_or, Bool.not_eq_false, ne_eq, Decidable.not_not] at h2
          cases h
          exact h2
theorem readE_long (b : List UInt8) : longE (readE b).1 := by
  have h0 : longE epo0 := by refine ⟨⟨?_, ?_⟩, ?_, ?_, ?_, ?_, ?_⟩ <;> simp [epo0]
  obtain ⟨d, hd⟩ : ∃ d, decodeP b = d := ⟨_, rfl⟩
  rw [readE, hd]
  unfold readED
  split
  · exact h0
  · rename_i h1
    split
    · exact h0
    · obtain ⟨v, e⟩ := d
      have h1 : e = 0 := by simpa using h1
      subst h1
      have hp := pureA_list (decode_inv hd).1.1
      have hl := at_len hp 7
      have hq := at_list hp 7
      cases hm : memsOf (at0 v.list 7).list with
      | none => exact h0
      | some ms =>
        simp only [Option.elim_some]
        split
        · exact h0
        · exact epoOf_long hp (by rw [memsOf_len hm]; exact hl.1) (mems_long hq hm)
theorem ok_sameE {E : Env} (hp : E.prim 30 = none) (hf : E.F 30 = some F30) (h1 : E.prim 10 = some fun _ => p_bsame) : OkS E 30 e_sameE (gd k_sameE r_sameE) := by
  refine OkS.code hp hf (fun _ => rfl) fun ⟨a, b⟩ la => ?_
  have la : longE a := la
  have lc := la.2.2.2.2.1
  have q1 := fun (S : Store) (K : AV → Store → Prop) (q : Dm K) => c_bsame h1 a.digest b.digest (by have := la.2.1; omega) (S := S) (K := K) (d := q)
  have q2 := fun (S : Store) (K : AV → Store → Prop) (q : Dm K) => c_bsame h1 a.pub b.pub (by have := la.2.2.1; omega) (S := S) (K := K) (d := q)
  have q3 := fun (S : Store) (K : AV → Store → Prop) (q : Dm K) => c_bsame h1 a.link b.link (by have := la.2.2.2.1; omega) (S := S) (K := K) (d := q)
  cases y1 : decide (a.folder = b.folder)
  · have e : decide (a = b) = false := decide_eq_false fun h => of_decide_eq_false y1 (by rw [h])
    simp -dsimp only [go_sem, F30, e_sameE, r_sameE, y1, e]
  cases y2 : decide (a.number = b.number)
  · have e : decide (a = b) = false := decide_eq_false fun h => of_decide_eq_false y2 (by rw [h])
    simp -dsimp only [go_sem, F30, e_sameE, r_sameE, y1, y2, e]
  cases y3 : decide (a.place = b.place)
  · have e : decide (a = b) = false := decide_eq_false fun h => of_decide_eq_false y3 (by rw [h])
    simp -dsimp only [go_sem, F30, e_sameE, r_sameE, y1, y2, y3, e]
  cases y4 : decide (a.from' = b.from')
  · have e : decide (a = b) = false := decide_eq_false fun h => of_decide_eq_false y4 (by rw [h])
    simp -dsimp only [go_sem, F30, e_sameE, r_sameE, y1, y2, y3, y4, e]
  cases y5 : decide (a.seq = b.seq)
  · have e : decide (a = b) = false := decide_eq_false fun h => of_decide_eq_false y5 (by rw [h])
    simp -dsimp only [go_sem, F30, e_sameE, r_sameE, y1, y2, y3, y4, y5, e]
  cases y6 : decide (a.by' = b.by')
  · have e : decide (a = b) = false := decide_eq_false fun h => of_decide_eq_false y6 (by rw [h])
    simp -dsimp only [go_sem, F30, e_sameE, r_sameE, y1, y2, y3, y4, y5, y6, e]
  cases y7 : decide ((a.chain.length : Int) = (b.chain.length : Int))
  · have e : decide (a = b) = false := decide_eq_false fun h => of_decide_eq_false y7 (by rw [h])
    simp -dsimp only [go_sem, F30, e_sameE, r_sameE, y1, y2, y3, y4, y5, y6, y7, e]
  have hl : a.chain.length = b.chain.length := by have := of_decide_eq_true y7; omega
  simp -dsimp only [go_sem, F30, e_sameE, r_sameE, y1, y2, y3, y4, y5, y6, y7]
  refine Ex.count (n := a.chain.length) (i0 := 0) (fun i g T => g 2 = .ptr 0 0 ∧ g 3 = .ptr 1 0 ∧ T = [.cells (epoL a), .cells (epoL b)] ∧ a.chain.take i = b.chain.take i) (by decide) (by omega) rfl (by omega) ⟨rfl, rfl, rfl, rfl⟩ ?_ ?_ ?_
  · rintro i g T hi gi ⟨g2, g3, rfl, hI⟩
    simp -dsimp only [go_sem, gi, g2, g3]
  · rintro i g T hi gi ⟨g2, g3, rfl, hI⟩
    have hib : i < b.chain.length := by omega
    have hq := eqsA_n [1, 0] [.str a.chain[i].name, .int .i64 a.chain[i].role] [.str b.chain[i].name, .int .i64 b.chain[i].role] rfl rfl (aeqs_s [0] a.chain[i].name b.chain[i].name [.int .i64 a.chain[i].role] [.int .i64 b.chain[i].role] (aeqs_i [] .i64 a.chain[i].role b.chain[i].role [] [] aeqs_nil))
    rw [Bool.and_true] at hq
    cases v1 : (decide (a.chain[i].name = b.chain[i].name) && decide (a.chain[i].role = b.chain[i].role))
    · have e : decide (a = b) = false := decide_eq_false fun h => by subst h; simp at v1
      simp -dsimp only [go_sem, gi, g2, g3, ia_enc .i64 hi, ia_enc .i64 hib, ld_enc, c_mem, hq, v1, F30, e_sameE, r_sameE, e]
    · have hm : a.chain[i] = b.chain[i] := by
        simp only [Bool.and_eq_true, decide_eq_true_eq] at v1
        cases ha : a.chain[i]; cases hb : b.chain[i]
        rw [ha, hb] at v1
        simp only at v1
        rw [v1.1, v1.2]
      have hn : a.chain.take (i + 1) = b.chain.take (i + 1) := by rw [List.take_succ_eq_append_getElem hi, List.take_succ_eq_append_getElem hib, hI, hm]
      simp -dsimp only [go_sem, gi, g2, g3, ia_enc .i64 hi, ia_enc .i64 hib, ld_enc, c_mem, hq, v1, hn]
  · rintro g T gi ⟨g2, g3, rfl, hI⟩
    rw [List.take_length, hl, List.take_length] at hI
    have e : decide (a = b) = (decide (a.digest = b.digest) && (decide (a.pub = b.pub) && decide (a.link = b.link))) := by
      simp only [← Bool.decide_and]
      refine decide_eq_decide.2 ?_
      rw [EpoR.ext_iff]
      constructor
      · rintro ⟨h1, h2, h3, h4, h5, h6, h7, h8, h9, h10⟩; exact ⟨h6, h8, h9⟩
      · rintro ⟨h6, h8, h9⟩; exact ⟨of_decide_eq_true y1, of_decide_eq_true y2, of_decide_eq_true y3, of_decide_eq_true y4, of_decide_eq_true y5, h6, hI, h8, h9, of_decide_eq_true y6⟩
    cases v1 : decide (a.digest = b.digest)
    · simp -dsimp only [go_sem, gi, g2, g3, q1, q2, q3, v1, F30, e_sameE, r_sameE, e, Bool.false_and, Bool.true_and]
    cases v2 : decide (a.pub = b.pub)
    · simp -dsimp only [go_sem, gi, g2, g3, q1, q2, q3, v1, v2, F30, e_sameE, r_sameE, e, Bool.false_and, Bool.true_and]
    · simp -dsimp only [go_sem, gi, g2, g3, q1, q2, q3, v1, v2, F30, e_sameE, r_sameE, e, Bool.false_and, Bool.true_and]
end Go.Proofs.YtaajlbbooneiiaaDoor.Avm
set_option linter.unusedVariables false
set_option linter.unusedSimpArgs false
set_option maxRecDepth 10000
namespace Go.Proofs.YtaajlbbooneiiaaDoor.Avm

theorem ok_readE {E : Env} (hp : E.prim 28 = none) (hf : E.F 28 = some F28) (h1 : E.prim 48 = some fun _ => p_decode) (h2 : E.prim 54 = some fun _ => p_fields) (h3 : E.prim 57 = some fun _ => p_mayE) : OkG E 28 e_readE (gd k_readE r_readE) := by
  refine OkG.code hp hf (fun _ => rfl) fun b S _ => ?_
  have fe : ∀ (T : Store) (e : Int), S <+: T → Conv S T (.tup [.agg [.str [], .int .i64 0, .int .i64 0, .int .i64 0, .int .i64 0, .nilS, .nilS, .nilS, .nilS, .str []], .int .i64 e]) S (.tup [.agg (epoL epo0), .int .i64 e]) := fun T e hp =>
    conv_pair hp (fun i h => by simp [topIds, topIdsL] at h) (rd_epo T (d1 := []) (ms := []) (d2 := []) (d3 := []) rfl rfl rfl rfl)
  have pr : ∀ L : List AObj, S <+: S ++ L := fun L => List.prefix_append _ _
  obtain ⟨d, hd⟩ : ∃ d, decodeP b = d := ⟨_, rfl⟩
  have hr : readE b = readED d := by rw [readE, hd]
  unfold readED at hr
  cases y1 : decide (d.2 = 0)
  · rw [if_pos (of_decide_eq_false y1)] at hr
    simp -dsimp only [go_sem, F28, e_readE, r_readE, c_decode h1, hd, y1, hr]
    exact fe _ _ (pr _)
  have y1' := of_decide_eq_true y1
  rw [if_neg (fun h => h y1')] at hr
  obtain ⟨v, e⟩ := d
  simp only at y1' hr y1
  subst y1'
  obtain ⟨⟨hpu, hde, hby⟩, hbv⟩ := decode_inv hd
  have hvl := (pure_llen hpu).1
  have hpl := pureA_list hpu
  have cf : ∀ (T : Store) (K : AV → Store → Prop) (q : Dm K), SpD E 54 [.agg (valL v), .csl [.int .i64 2, .int .i64 2, .int .i64 1, .int .i64 1, .int .i64 1, .int .i64 1, .int .i64 2, .int .i64 3, .int .i64 2, .int .i64 2, .int .i64 2] 11] T K q = K (.tup [enc (fieldsP v ksE).1, .bool (fieldsP v ksE).2]) T := fun T K q => c_fields h2 v ksE ⟨by decide, by omega⟩
  cases y2 : (fieldsP v ksE).2
  · rw [if_pos (.inl y2)] at hr
    simp -dsimp only [go_sem, F28, e_readE, r_readE, c_decode h1, hd, cf, y2, hr]
    exact fe _ _ (pr _)
  obtain ⟨f1, f2, f3, f4⟩ := fields_len y2
  have f2 : v.list.length = 11 := f2
  rw [f1] at cf
  have i0 := ia_at (l := v.list) (i := 0) (by omega) .i64
  have i1 : iaddrA 4 (enc v.list) (.int .i64 1) = _ := ia_at (l := v.list) (i := 1) (by omega) .i64
  have i2 : iaddrA 4 (enc v.list) (.int .i64 2) = _ := ia_at (l := v.list) (i := 2) (by omega) .i64
  have i3 : iaddrA 4 (enc v.list) (.int .i64 3) = _ := ia_at (l := v.list) (i := 3) (by omega) .i64
  have i4 : iaddrA 4 (enc v.list) (.int .i64 4) = _ := ia_at (l := v.list) (i := 4) (by omega) .i64
  have i5 : iaddrA 4 (enc v.list) (.int .i64 5) = _ := ia_at (l := v.list) (i := 5) (by omega) .i64
  have i6 : iaddrA 4 (enc v.list) (.int .i64 6) = _ := ia_at (l := v.list) (i := 6) (by omega) .i64
  have i7 : iaddrA 4 (enc v.list) (.int .i64 7) = _ := ia_at (l := v.list) (i := 7) (by omega) .i64
  have i8 : iaddrA 4 (enc v.list) (.int .i64 8) = _ := ia_at (l := v.list) (i := 8) (by omega) .i64
  have i9 : iaddrA 4 (enc v.list) (.int .i64 9) = _ := ia_at (l := v.list) (i := 9) (by omega) .i64
  have i10 : iaddrA 4 (enc v.list) (.int .i64 10) = _ := ia_at (l := v.list) (i := 10) (by omega) .i64
  simp only [Int.natCast_zero] at i0
  cases y3 : decide ((at0 v.list 0).bytes = [101, 112, 111, 99, 104])
  · rw [if_pos (.inr (of_decide_eq_false y3))] at hr
    simp -dsimp only [go_sem, F28, e_readE, r_readE, c_decode h1, hd, cf, y2, i0, b2s_enc, y3, hr]
    exact fe _ _ (pr _)
  rw [if_neg (fun h => h.elim (fun h => by rw [y2] at h; cases h) (fun h => h (of_decide_eq_true y3)))] at hr
  simp -dsimp only [go_sem, F28, e_readE, r_readE, c_decode h1, hd, cf, y2, i0, b2s_enc, y3]
  refine ExF.intro ?_
  simp -dsimp only [go_sem, i1, i2, i3, i4, i5, i6, i8, i9, i10, b2s_enc]
  refine ⟨?_, ?_⟩
  rotate_left
  · (repeat' (first | exact fl_ld rfl rfl rfl rfl (flLd_n _ _ _ _ _ _ (by simp -dsimp only [go_sem, i1, i2, i3, i4, i5, i6, i8, i9, i10, b2s_enc])) | exact fl_b2s rfl rfl rfl rfl (by simp -dsimp only [go_sem, i1, i2, i3, i4, i5, i6, i8, i9, i10, b2s_enc]) | apply And.intro))
  simp -dsimp only [go_sem, i7]
  obtain ⟨l5, hl5⟩ : ∃ l5, (at0 v.list 7).list = l5 := ⟨_, rfl⟩
  have h5l := at_len hpl 7
  have h5p := at_list hpl 7
  rw [hl5] at h5l h5p hr
  simp only [hl5]
  have cy : ∀ (T : Store) (y : AV) (ms : List Mem), rdS T y = some (enc ms) → ms.length ≤ 4096 → (∀ x, x ∈ ms → x.name.length ≤ 1048576) → ∀ (K : AV → Store → Prop) (q : Dm K), SpD E 57 [.agg [.str (at0 v.list 1).bytes, .int .i64 (at0 v.list 2).num, .int .i64 (at0 v.list 3).num, .int .i64 (at0 v.list 4).num, .int .i64 (at0 v.list 5).num, enc (at0 v.list 6).bytes, y, enc (at0 v.list 8).bytes, enc (at0 v.list 9).bytes, .str (at0 v.list 10).bytes]] T K q = K (.bool (mayE (epoOf v.list ms))) T :=
    fun T y ms hy hm hx K q => c_mayE' h3 (rd_epo T (enc_rdS T _) hy (enc_rdS T _) (enc_rdS T _)) (epoOf_long hpl hm hx)
  refine Ex.range (n := l5.length) (fun i g T => g 2 = .ptr S.length 0 ∧ g 6 = enc v.list ∧ g 8 = .ptr (S.length + 2) 0 ∧ g 81 = enc l5 ∧ ∃ (y : AV) (R : Store) (ms : List Mem), T = S ++ (.cells [.str [], .int .i64 0, .int .i64 0, .int .i64 0, .int .i64 0, .nilS, .nilS, .nilS, .nilS, .str []] :: .cells (valL v) ::
    .cells [.str (at0 v.list 1).bytes, .int .i64 (at0 v.list 2).num, .int .i64 (at0 v.list 3).num, .int .i64 (at0 v.list 4).num, .int .i64 (at0 v.list 5).num, enc (at0 v.list 6).bytes, y, enc (at0 v.list 8).bytes, enc (at0 v.list 9).bytes, .str (at0 v.list 10).bytes] :: R) ∧
    OwnR (S.length + 3) R y ms ∧ memsOf (l5.take i) = some ms) (by decide) (by omega) rfl rfl ⟨rfl, rfl, rfl, rfl, .nilS, [], [], rfl, .inl ⟨rfl, rfl⟩, rfl⟩ ?_ ?_
  · rintro i g T hi gi gn ⟨g2, g6, g8, g81, y, R, ms, rfl, hR, hms⟩
    have hx := h5p _ (List.getElem_mem hi)
    have hxl := (pure_llen hx).1
    have cf2 : ∀ (T : Store) (K : AV → Store → Prop) (q : Dm K), SpD E 54 [.agg (valL l5[i]), enc [(2 : Int), 1]] T K q = K (.tup [enc (fieldsP l5[i] ks2).1, .bool (fieldsP l5[i] ks2).2]) T := fun T K q => c_fields h2 l5[i] ks2 ⟨by decide, by omega⟩
    cases yf : (fieldsP l5[i] ks2).2
    · rw [memsOf_bad hi hms yf] at hr
      simp only [Option.elim_none] at hr
      simp -dsimp only [go_sem, gi, gn, g2, g6, g8, g81, ia_enc .i64 hi, ld_enc, cf2, yf, F28, r_readE, hr]
      exact fe _ _ (pr _)
    · obtain ⟨p1, p2, p3, p4⟩ := fields_len yf
      have p2 : l5[i].list.length = 2 := p2
      rw [p1] at cf2
      have j0 := ia_at (l := l5[i].list) (i := 0) (by omega) .i64
      have j1 : iaddrA 4 (enc l5[i].list) (.int .i64 1) = _ := ia_at (l := l5[i].list) (i := 1) (by omega) .i64
      simp only [Int.natCast_zero] at j0
      simp -dsimp only [go_sem, gi, gn, g2, g6, g8, g81, ia_enc .i64 hi, ld_enc, cf2, yf, j0, j1, b2s_enc]
      have hO : OwnL (S ++ [.cells [.str [], .int .i64 0, .int .i64 0, .int .i64 0, .int .i64 0, .nilS, .nilS, .nilS, .nilS, .str []], .cells (valL v),
        .cells [.str (at0 v.list 1).bytes, .int .i64 (at0 v.list 2).num, .int .i64 (at0 v.list 3).num, .int .i64 (at0 v.list 4).num, .int .i64 (at0 v.list 5).num, enc (at0 v.list 6).bytes, y, enc (at0 v.list 8).bytes, enc (at0 v.list 9).bytes, .str (at0 v.list 10).bytes]]) _ y _ := OwnR.own (R := R ++ [.cells (valL l5[i])]) (by simpa using hR.more _)
      simp only [List.append_assoc, List.cons_append, List.nil_append] at hO
      have hml := memsOf_len hms
      refine OwnL.app hO rfl (el_enc _ rfl) ?_ fun y' T' hO' hK hi' => ?_
      · simp only [List.length_singleton]; rw [hml, List.length_take]; omega
      obtain ⟨R', rfl⟩ := hO'.1
      have hR' := hO'.ownR
      have yc := hO'.cells1
      simp only [List.append_assoc, List.cons_append, List.nil_append]
      simp -dsimp only [go_sem, gi, gn, g2, g6, g8, g81, yc]
      exact ⟨y', R', _, rfl, by simpa [memOf] using hR', memsOf_succ hi hms yf⟩
  · rintro g T gi ⟨g2, g6, g8, g81, y, R, ms, rfl, hR, hms⟩
    rw [List.take_length] at hms
    have hml := memsOf_len hms
    have hmx := mems_long h5p hms
    rw [hms] at hr
    simp only [Option.elim_some] at hr
    have hO : OwnL (S ++ [.cells [.str [], .int .i64 0, .int .i64 0, .int .i64 0, .int .i64 0, .nilS, .nilS, .nilS, .nilS, .str []], .cells (valL v),
        .cells [.str (at0 v.list 1).bytes, .int .i64 (at0 v.list 2).num, .int .i64 (at0 v.list 3).num, .int .i64 (at0 v.list 4).num, .int .i64 (at0 v.list 5).num, enc (at0 v.list 6).bytes, y, enc (at0 v.list 8).bytes, enc (at0 v.list 9).bytes, .str (at0 v.list 10).bytes]]) _ y _ := OwnR.own (R := R) (by simpa using hR)
    simp only [List.append_assoc, List.cons_append, List.nil_append] at hO
    have cm := cy _ y ms hO.rd (by omega) hmx
    cases ym : mayE (epoOf v.list ms)
    · rw [if_pos ym] at hr
      simp -dsimp only [go_sem, gi, g2, g6, g8, g81, cm, ym, F28, r_readE, hr]
      exact fe _ _ (pr _)
    rw [if_neg (by rw [ym]; decide)] at hr
    have hid := hO.ids
    have hrd : ∀ o : AObj, rdS (S ++ o :: .cells (valL v) :: .cells [.str (at0 v.list 1).bytes, .int .i64 (at0 v.list 2).num, .int .i64 (at0 v.list 3).num, .int .i64 (at0 v.list 4).num, .int .i64 (at0 v.list 5).num, enc (at0 v.list 6).bytes, y, enc (at0 v.list 8).bytes, enc (at0 v.list 9).bytes, .str (at0 v.list 10).bytes] :: R) y = some (enc ms) := fun o => by
      have hO2 : OwnL (S ++ [o, .cells (valL v), .cells [.str (at0 v.list 1).bytes, .int .i64 (at0 v.list 2).num, .int .i64 (at0 v.list 3).num, .int .i64 (at0 v.list 4).num, .int .i64 (at0 v.list 5).num, enc (at0 v.list 6).bytes, y, enc (at0 v.list 8).bytes, enc (at0 v.list 9).bytes, .str (at0 v.list 10).bytes]]) _ y _ := OwnR.own (R := R) (by simpa using hR)
      have := hO2.rd
      simpa only [List.append_assoc, List.cons_append, List.nil_append] using this
    simp -dsimp only [go_sem, gi, g2, g6, g8, g81, cm, ym, F28, r_readE, hr]
    exact conv_pair (pr _) (fun i h => by
      simp only [topIds, topIdsL, enc_top, List.nil_append, List.append_nil] at h
      have := hid i h; simp at this; omega) (rd_epo _ (enc_rdS _ _) (hrd _) (enc_rdS _ _) (enc_rdS _ _))
theorem ok_readER {E : Env} (hp : E.prim 31 = none) (hf : E.F 31 = some F31) (h1 : E.prim 49 = some fun _ => p_decodeR) (h2 : E.prim 56 = some fun _ => p_kindsR) (h3 : E.prim 27 = some fun _ => p_mayER)
    (h4 : E.prim 29 = some fun _ => p_textER) (h5 : E.prim 10 = some fun _ => p_bsame) : OkGW E 31 e_readER (gd k_readER r_readER) := by
  refine OkGW.code hp hf (fun _ => rfl) fun b S hwf _ => ?_
  have fe : ∀ (T : Store) (e : Int), S <+: T → Conv S T (.tup [.agg [.str [], .int .i64 0, .int .i64 0, .int .i64 0, .int .i64 0, .nilS, .nilS, .nilS, .nilS, .str []], .int .i64 e]) S (.tup [.agg (epoL epo0), .int .i64 e]) := fun T e hp =>
    conv_pair hp (fun i h => by simp [topIds, topIdsL] at h) (rd_epo T (d1 := []) (ms := []) (d2 := []) (d3 := []) rfl rfl rfl rfl)
  have pr : ∀ L : List AObj, S <+: S ++ L := fun L => List.prefix_append _ _
  obtain ⟨d, hd⟩ : ∃ d, decodeP b = d := ⟨_, rfl⟩
  have hr : readE b = (if d.2 ≠ 0 then (epo0, d.2)
    else if (fieldsP d.1 ksE).2 = false then (epo0, 11)
    else (memsOf (at0 d.1.list 7).list).elim (epo0, 11) fun ms => if mayE (epoOf d.1.list ms) = false ∨ bytesA (epoV (epoOf d.1.list ms)) ≠ b then (epo0, 11) else (epoOf d.1.list ms, 0)) := by rw [← readER_eq, hd]; rfl
  cases y1 : decide (d.2 = 0)
  · rw [if_pos (of_decide_eq_false y1)] at hr
    simp -dsimp only [go_sem, F31, e_readER, r_readER, c_decodeR h1, hd, y1, hr]
    exact fe _ _ (pr _)
  have y1' := of_decide_eq_true y1
  rw [if_neg (fun h => h y1')] at hr
  obtain ⟨v, e⟩ := d
  simp only at y1' hr y1
  subst y1'
  obtain ⟨⟨hpu, hde, hby⟩, hbv⟩ := decode_inv hd
  have hvl := (pure_llen hpu).1
  have hpl := pureA_list hpu
  have hbl : b.length ≤ 1048576 := by rw [hbv]; exact hby
  have cf : ∀ (T : Store) (K : AV → Store → Prop) (q : Dm K), SpD E 56 [.agg (valL v), .csl [.int .i64 2, .int .i64 2, .int .i64 1, .int .i64 1, .int .i64 1, .int .i64 1, .int .i64 2, .int .i64 3, .int .i64 2, .int .i64 2, .int .i64 2] 11] T K q = K (.bool (fieldsP v ksE).2) T := fun T K q => c_kindsR h2 v ksE ⟨by decide, by omega⟩
  cases y2 : (fieldsP v ksE).2
  · rw [if_pos y2] at hr
    simp -dsimp only [go_sem, F31, e_readER, r_readER, c_decodeR h1, hd, cf, y2, hr]
    exact fe _ _ (pr _)
  obtain ⟨f1, f2, f3, f4⟩ := fields_len y2
  have f2 : v.list.length = 11 := f2
  rw [if_neg (by rw [y2]; decide)] at hr
  have i1 : iaddrA 4 (enc v.list) (.int .i64 1) = _ := ia_at (l := v.list) (i := 1) (by omega) .i64
  have i2 : iaddrA 4 (enc v.list) (.int .i64 2) = _ := ia_at (l := v.list) (i := 2) (by omega) .i64
  have i3 : iaddrA 4 (enc v.list) (.int .i64 3) = _ := ia_at (l := v.list) (i := 3) (by omega) .i64
  have i4 : iaddrA 4 (enc v.list) (.int .i64 4) = _ := ia_at (l := v.list) (i := 4) (by omega) .i64
  have i5 : iaddrA 4 (enc v.list) (.int .i64 5) = _ := ia_at (l := v.list) (i := 5) (by omega) .i64
  have i6 : iaddrA 4 (enc v.list) (.int .i64 6) = _ := ia_at (l := v.list) (i := 6) (by omega) .i64
  have i7 : iaddrA 4 (enc v.list) (.int .i64 7) = _ := ia_at (l := v.list) (i := 7) (by omega) .i64
  have i8 : iaddrA 4 (enc v.list) (.int .i64 8) = _ := ia_at (l := v.list) (i := 8) (by omega) .i64
  have i9 : iaddrA 4 (enc v.list) (.int .i64 9) = _ := ia_at (l := v.list) (i := 9) (by omega) .i64
  have i10 : iaddrA 4 (enc v.list) (.int .i64 10) = _ := ia_at (l := v.list) (i := 10) (by omega) .i64
  simp -dsimp only [go_sem, F31, e_readER, r_readER, c_decodeR h1, hd, cf, y2]
  refine ExF.intro ?_
  simp -dsimp only [go_sem, i1, i2, i3, i4, i5, i6, i8, i9, i10, b2s_enc]
  refine ⟨?_, ?_⟩
  rotate_left
  · (repeat' (first | exact fl_ld rfl rfl rfl rfl (flLd_n _ _ _ _ _ _ (by simp -dsimp only [go_sem, i1, i2, i3, i4, i5, i6, i8, i9, i10, b2s_enc])) | exact fl_b2s rfl rfl rfl rfl (by simp -dsimp only [go_sem, i1, i2, i3, i4, i5, i6, i8, i9, i10, b2s_enc]) | apply And.intro))
  obtain ⟨l5, hl5⟩ : ∃ l5, (at0 v.list 7).list = l5 := ⟨_, rfl⟩
  have h5l := at_len hpl 7
  have h5p := at_list hpl 7
  rw [hl5] at h5l h5p hr i7
  have cy : ∀ (T : Store) (y : AV) (ms : List Mem), rdS T y = some (enc ms) → ms.length ≤ 4096 → (∀ x, x ∈ ms → x.name.length ≤ 1048576) → ∀ (K : AV → Store → Prop) (q : Dm K), SpD E 27 [.agg [.str (at0 v.list 1).bytes, .int .i64 (at0 v.list 2).num, .int .i64 (at0 v.list 3).num, .int .i64 (at0 v.list 4).num, .int .i64 (at0 v.list 5).num, enc (at0 v.list 6).bytes, y, enc (at0 v.list 8).bytes, enc (at0 v.list 9).bytes, .str (at0 v.list 10).bytes]] T K q = K (.bool (mayE (epoOf v.list ms))) T :=
    fun T y ms hy hm hx K q => c_mayER' h3 (rd_epo T (enc_rdS T _) hy (enc_rdS T _) (enc_rdS T _)) (epoOf_long hpl hm hx)
  refine Ex.count (n := l5.length) (i0 := 0) (fun i g T => g 0 = enc b ∧ g 2 = .ptr S.length 0 ∧ g 6 = enc v.list ∧ g 7 = .ptr (S.length + 2) 0 ∧ ∃ (y : AV) (R : Store) (ms : List Mem), T = S ++ (.cells [.str [], .int .i64 0, .int .i64 0, .int .i64 0, .int .i64 0, .nilS, .nilS, .nilS, .nilS, .str []] :: .cells (valL v) ::
    .cells [.str (at0 v.list 1).bytes, .int .i64 (at0 v.list 2).num, .int .i64 (at0 v.list 3).num, .int .i64 (at0 v.list 4).num, .int .i64 (at0 v.list 5).num, enc (at0 v.list 6).bytes, y, enc (at0 v.list 8).bytes, enc (at0 v.list 9).bytes, .str (at0 v.list 10).bytes] :: R) ∧
    OwnR (S.length + 3) R y ms ∧ memsOf (l5.take i) = some ms) (by decide) (by omega) rfl (by omega) ⟨rfl, rfl, rfl, rfl, .nilS, [], [], rfl, .inl ⟨rfl, rfl⟩, rfl⟩ ?_ ?_ ?_
  · rintro i g T hi gi ⟨g0, g2, g6, g7, y, R, ms, rfl, hR, hms⟩
    simp -dsimp only [go_sem, gi, g6, i7]
  · rintro i g T hi gi ⟨g0, g2, g6, g7, y, R, ms, rfl, hR, hms⟩
    have hx := h5p _ (List.getElem_mem hi)
    have hxl := (pure_llen hx).1
    have cf2 : ∀ (T : Store) (K : AV → Store → Prop) (q : Dm K), SpD E 56 [.agg (valL l5[i]), enc [(2 : Int), 1]] T K q = K (.bool (fieldsP l5[i] ks2).2) T := fun T K q => c_kindsR h2 l5[i] ks2 ⟨by decide, by omega⟩
    cases yf : (fieldsP l5[i] ks2).2
    · rw [memsOf_bad hi hms yf] at hr
      simp only [Option.elim_none] at hr
      simp -dsimp only [go_sem, gi, g0, g2, g6, g7, i7, ia_enc .i64 hi, ld_enc, cf2, yf, F31, r_readER, hr, hd]
      exact fe _ _ (pr _)
    · obtain ⟨p1, p2, p3, p4⟩ := fields_len yf
      have p2 : l5[i].list.length = 2 := p2
      have j0 := ia_at (l := l5[i].list) (i := 0) (by omega) .i64
      have j1 : iaddrA 4 (enc l5[i].list) (.int .i64 1) = _ := ia_at (l := l5[i].list) (i := 1) (by omega) .i64
      simp only [Int.natCast_zero] at j0
      simp -dsimp only [go_sem, gi, g0, g2, g6, g7, i7, ia_enc .i64 hi, ld_enc, cf2, yf, j0, j1, b2s_enc]
      have hO : OwnL (S ++ [.cells [.str [], .int .i64 0, .int .i64 0, .int .i64 0, .int .i64 0, .nilS, .nilS, .nilS, .nilS, .str []], .cells (valL v),
        .cells [.str (at0 v.list 1).bytes, .int .i64 (at0 v.list 2).num, .int .i64 (at0 v.list 3).num, .int .i64 (at0 v.list 4).num, .int .i64 (at0 v.list 5).num, enc (at0 v.list 6).bytes, y, enc (at0 v.list 8).bytes, enc (at0 v.list 9).bytes, .str (at0 v.list 10).bytes]]) _ y _ := OwnR.own (R := R ++ [.cells (valL l5[i])]) (by simpa using hR.more _)
      simp only [List.append_assoc, List.cons_append, List.nil_append] at hO
      have hml := memsOf_len hms
      refine OwnL.app hO rfl (el_enc _ rfl) ?_ fun y' T' hO' hK hi' => ?_
      · simp only [List.length_singleton]; rw [hml, List.length_take]; omega
      obtain ⟨R', rfl⟩ := hO'.1
      have hR' := hO'.ownR
      have yc := hO'.cells1
      simp only [List.append_assoc, List.cons_append, List.nil_append]
      simp -dsimp only [go_sem, gi, g0, g2, g6, g7, yc]
      exact ⟨y', R', _, rfl, by simpa [memOf] using hR', memsOf_succ hi hms yf⟩
  · rintro g T gi ⟨g0, g2, g6, g7, y, R, ms, rfl, hR, hms⟩
    rw [List.take_length] at hms
    have hml := memsOf_len hms
    have hmx := mems_long h5p hms
    rw [hms] at hr
    simp only [Option.elim_some] at hr
    obtain ⟨o8, ho8⟩ : ∃ o8 : AV → AObj, o8 = fun y => .cells [.str (at0 v.list 1).bytes, .int .i64 (at0 v.list 2).num, .int .i64 (at0 v.list 3).num, .int .i64 (at0 v.list 4).num, .int .i64 (at0 v.list 5).num, enc (at0 v.list 6).bytes, y, enc (at0 v.list 8).bytes, enc (at0 v.list 9).bytes, .str (at0 v.list 10).bytes] := ⟨_, rfl⟩
    have hO : OwnL (S ++ [.cells [.str [], .int .i64 0, .int .i64 0, .int .i64 0, .int .i64 0, .nilS, .nilS, .nilS, .nilS, .str []], .cells (valL v),
        .cells [.str (at0 v.list 1).bytes, .int .i64 (at0 v.list 2).num, .int .i64 (at0 v.list 3).num, .int .i64 (at0 v.list 4).num, .int .i64 (at0 v.list 5).num, enc (at0 v.list 6).bytes, y, enc (at0 v.list 8).bytes, enc (at0 v.list 9).bytes, .str (at0 v.list 10).bytes]]) _ y _ := OwnR.own (R := R) (by simpa using hR)
    simp only [List.append_assoc, List.cons_append, List.nil_append] at hO
    have hrd := hO.rd
    have cm := cy _ y ms hrd (by omega) hmx
    cases ym : mayE (epoOf v.list ms)
    · rw [if_pos (.inl ym)] at hr
      simp -dsimp only [go_sem, gi, g0, g2, g6, g7, cm, ym, F31, r_readER, hr, hd]
      exact fe _ _ (pr _)
    have hid : ∀ i, i ∈ topIds y → S.length ≤ i := fun i hi => by have := hO.ids i hi; simp at this; omega
    have hbb := (right_epo ym).2.2
    have ct := fun (K : AV → Store → Prop) (q : Dm K) => c_textER' (r := epoOf v.list ms) h4 (rd_epo _ (enc_rdS _ _) hrd (enc_rdS _ _) (enc_rdS _ _) : rdS _ (.agg [.str (at0 v.list 1).bytes, .int .i64 (at0 v.list 2).num, .int .i64 (at0 v.list 3).num, .int .i64 (at0 v.list 4).num, .int .i64 (at0 v.list 5).num, enc (at0 v.list 6).bytes, y, enc (at0 v.list 8).bytes, enc (at0 v.list 9).bytes, .str (at0 v.list 10).bytes]) = some (.agg (epoL (epoOf v.list ms)))) ym (K := K) (d := q)
    simp only [topIdsL, topIds, enc_top, List.nil_append, List.append_nil] at ct
    obtain ⟨T', hT'⟩ : ∃ T', killH (topIds y) (S ++ .cells [.str [], .int .i64 0, .int .i64 0, .int .i64 0, .int .i64 0, .nilS, .nilS, .nilS, .nilS, .str []] :: .cells (valL v) ::
      .cells [.str (at0 v.list 1).bytes, .int .i64 (at0 v.list 2).num, .int .i64 (at0 v.list 3).num, .int .i64 (at0 v.list 4).num, .int .i64 (at0 v.list 5).num, enc (at0 v.list 6).bytes, y, enc (at0 v.list 8).bytes, enc (at0 v.list 9).bytes, .str (at0 v.list 10).bytes] :: R) = T' := ⟨_, rfl⟩
    have key : ∃ (y2 : AV) (R2 : Store), (y2 = .nilS ∧ ms = [] ∨ y2 = enc ms) ∧ T' = S ++ (.cells [.str [], .int .i64 0, .int .i64 0, .int .i64 0, .int .i64 0, .nilS, .nilS, .nilS, .nilS, .str []] :: .cells (valL v) :: .cells [.str (at0 v.list 1).bytes, .int .i64 (at0 v.list 2).num, .int .i64 (at0 v.list 3).num, .int .i64 (at0 v.list 4).num, .int .i64 (at0 v.list 5).num, enc (at0 v.list 6).bytes, y2, enc (at0 v.list 8).bytes, enc (at0 v.list 9).bytes, .str (at0 v.list 10).bytes] :: R2) := by
      rcases hR with ⟨rfl, rfl⟩ | ⟨j, rfl, hj⟩
      · refine ⟨.nilS, R, .inl ⟨rfl, rfl⟩, ?_⟩
        rw [← hT', show topIds AV.nilS = [] from rfl, killH_nil]
      · refine ⟨enc ms, (R.map (thawO (S ++ .cells [.str [], .int .i64 0, .int .i64 0, .int .i64 0, .int .i64 0, .nilS, .nilS, .nilS, .nilS, .str []] :: .cells (valL v) ::
          .cells [.str (at0 v.list 1).bytes, .int .i64 (at0 v.list 2).num, .int .i64 (at0 v.list 3).num, .int .i64 (at0 v.list 4).num, .int .i64 (at0 v.list 5).num, enc (at0 v.list 6).bytes, .sl (S.length + 3 + j) 0 ms.length (Rec.sz Mem), enc (at0 v.list 8).bytes, enc (at0 v.list 9).bytes, .str (at0 v.list 10).bytes] :: R) [S.length + 3 + j])).set j .dead, .inr rfl, ?_⟩
        rw [← hT', show topIds (.sl (S.length + 3 + j) 0 ms.length (Rec.sz Mem)) = [S.length + 3 + j] from rfl]
        have hth : thawV (S ++ .cells [.str [], .int .i64 0, .int .i64 0, .int .i64 0, .int .i64 0, .nilS, .nilS, .nilS, .nilS, .str []] :: .cells (valL v) ::
          .cells [.str (at0 v.list 1).bytes, .int .i64 (at0 v.list 2).num, .int .i64 (at0 v.list 3).num, .int .i64 (at0 v.list 4).num, .int .i64 (at0 v.list 5).num, enc (at0 v.list 6).bytes, .sl (S.length + 3 + j) 0 ms.length (Rec.sz Mem), enc (at0 v.list 8).bytes, enc (at0 v.list 9).bytes, .str (at0 v.list 10).bytes] :: R) [S.length + 3 + j] (.sl (S.length + 3 + j) 0 ms.length (Rec.sz Mem)) = enc ms := by
          simp only [thawV]
          rw [if_pos (by simp), hrd]; rfl
        have hse : ∀ (T : Store) (ids : List Nat) (l : List UInt8), thawV T ids (enc l) = enc l := fun T ids l => rfl
        have hsv : ∀ (T : Store) (ids : List Nat) (l : List Val), thawV T ids (enc l) = enc l := fun T ids l => rfl
        have hms' := map_thaw (S := S) (T := S ++ .cells [.str [], .int .i64 0, .int .i64 0, .int .i64 0, .int .i64 0, .nilS, .nilS, .nilS, .nilS, .str []] :: .cells (valL v) ::
          .cells [.str (at0 v.list 1).bytes, .int .i64 (at0 v.list 2).num, .int .i64 (at0 v.list 3).num, .int .i64 (at0 v.list 4).num, .int .i64 (at0 v.list 5).num, enc (at0 v.list 6).bytes, .sl (S.length + 3 + j) 0 ms.length (Rec.sz Mem), enc (at0 v.list 8).bytes, enc (at0 v.list 9).bytes, .str (at0 v.list 10).bytes] :: R) (ids := [S.length + 3 + j]) hwf (fun i hi => by simp only [List.mem_singleton] at hi; omega)
        simp only [killH, killL_cons, killL_nil, List.map_append, hms', List.map_cons, thawO, valL, hth, hse, hsv, List.map_nil]
        rw [show S.length + 3 + j = S.length + (j + 1 + 1 + 1) by omega, set_new]
        rfl
    obtain ⟨y2, R2, hy2, rfl⟩ := key
    have hrd2 : ∀ T, rdS T y2 = some (enc ms) ∧ topIds y2 = [] := fun T => by
      rcases hy2 with ⟨rfl, rfl⟩ | rfl
      · exact ⟨rfl, rfl⟩
      · exact ⟨enc_rdS _ _, enc_top _⟩
    have yc2 : y2.cells = [y2] := by rcases hy2 with ⟨rfl, rfl⟩ | rfl <;> rfl
    rw [hT'] at ct
    have cs := fun (T : Store) (K : AV → Store → Prop) (q : Dm K) => c_bsame h5 (bytesA (epoV (epoOf v.list ms))) b (by omega) (S := T) (K := K) (d := q)
    cases yb : decide (bytesA (epoV (epoOf v.list ms)) = b)
    · rw [if_pos (.inr (of_decide_eq_false yb))] at hr
      simp -dsimp only [go_sem, gi, g0, g2, g6, g7, cm, ym, ct, cs, yb, F31, r_readER, hr, hd]
      exact fe _ _ (pr _)
    rw [if_neg (fun h => h.elim (fun h => by rw [ym] at h; cases h) (fun h => h (of_decide_eq_true yb)))] at hr
    simp -dsimp only [go_sem, gi, g0, g2, g6, g7, cm, ym, ct, cs, yb, yc2, F31, r_readER, hr, hd]
    exact conv_pair (pr _) (fun i h => by
      simp only [topIds, topIdsL, enc_top, (hrd2 []).2, List.nil_append, List.append_nil] at h
      cases h) (rd_epo _ (enc_rdS _ _) (hrd2 _).1 (enc_rdS _ _) (enc_rdS _ _))
end Go.Proofs.YtaajlbbooneiiaaDoor.Avm
