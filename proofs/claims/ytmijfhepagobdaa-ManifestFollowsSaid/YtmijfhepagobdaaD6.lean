/- Manifests: what their functions answer. -/
import Derived.Test.YtmijfhepagobdaaS8
set_option linter.unusedVariables false
set_option linter.unusedSimpArgs false
namespace Go.Proofs.Ytmijfhepagobdaa.Avm

@[ext] structure Mani where
  folder : Str
  seq : Int
  prev : List UInt8
  parent : Str
  members : List Mem
  cut : Int
  gone : Bool
  by' : Str
abbrev maniL (m : Mani) : List AV := [.str m.folder, .int .i64 m.seq, enc m.prev, .str m.parent, enc m.members, .int .i64 m.cut, .bool m.gone, .str m.by']
def MayQ (m : Mani) : Prop := nameOk m.folder = true ∧ nameOk m.by' = true ∧ 1 ≤ m.seq ∧ m.seq ≤ 1099511627776 ∧ (m.seq = 1 ↔ m.prev.length = 0) ∧ m.prev.length ≤ 64 ∧ (m.parent = [] ∨ nameOk m.parent = true) ∧ m.parent ≠ m.folder ∧ rightP m.members = true ∧ 0 ≤ m.cut ∧ m.cut ≤ m.seq
instance (m : Mani) : Decidable (MayQ m) := by unfold MayQ; infer_instance
def mayP (m : Mani) : Bool := decide (MayQ m)
def fewM (m : Mani) : Bool := m.members.all (fun x => decide (x.name.length ≤ 20)) && (decide (m.folder.length ≤ 20) && (decide (m.by'.length ≤ 20) && (decide (m.parent.length ≤ 20) && (decide (m.members.length ≤ 20) && decide (m.prev.length ≤ 100)))))
/-- no text is beyond what can be -/
def longM (m : Mani) : Prop := m.folder.length ≤ 9223372036854775807 ∧ m.by'.length ≤ 9223372036854775807 ∧ m.parent.length ≤ 9223372036854775807 ∧ long1 m.members ∧ m.prev.length ≤ 9223372036854775807
def beginsP (m : Mani) : Int := if (!mayP m) = true then 2 else if (!decide (m.seq = 1) || !decide (((m.members.length : Nat) : Int) = 1)) = true then 11
  else if (!decide ((m.members.map (·.name)).headD [] = m.by')) = true then 11 else if (!decide (m.cut = 0) || m.gone) = true then 11 else 0
def beginsRP (m : Mani) : Int := if (!mayP m) = true then 2 else if (decide (m.seq = 1) && decide (m.members = [⟨m.by', 4⟩]) && decide (m.cut = 0) && !m.gone) = true then 0 else 11
def followsP (w : Mani) (d : List UInt8) (m : Mani) : Int :=
  if (!mayP w || !mayP m) = true then 2
  else if (w.gone || !decide (m.folder = w.folder) || !decide (m.seq = w.seq + 1) || !decide (m.prev = d)) = true then 11
  else if m.gone = true then (if (!decide (w.members = m.members) || !decide (m.parent = w.parent) || !decide (m.cut = w.cut)) = true then 11 else if ofP w.members m.by' < 4 then 40 else 0)
  else if (!decide (m.parent = w.parent)) = true then (if (!decide (w.members = m.members) || !decide (m.cut = m.seq)) = true then 11 else if ofP w.members m.by' < 4 then 40 else 0)
  else if (!decide ((stepP w.members m.members m.by').2 = 0)) = true then (stepP w.members m.members m.by').2
  else if (((stepP w.members m.members m.by').1 && !decide (m.cut = m.seq)) || (!(stepP w.members m.members m.by').1 && !decide (m.cut = w.cut))) = true then 11 else 0
def followsRP (w : Mani) (d : List UInt8) (m : Mani) : Int :=
  if (!mayP w || !mayP m) = true then 2
  else if (w.gone || !decide (m.folder = w.folder) || !decide (m.seq - 1 = w.seq) || !decide (m.prev = d)) = true then 11
  else if m.gone = true then (if (!decide (w.members = m.members) || !decide (m.cut = w.cut) || !decide (m.parent = w.parent)) = true then 11 else if (!decide (ofP w.members m.by' = 4)) = true then 40 else 0)
  else if (!decide (m.parent = w.parent)) = true then (if (!decide (w.members = m.members) || !decide (m.cut = m.seq)) = true then 11 else if (!decide (ofP w.members m.by' = 4)) = true then 40 else 0)
  else if (!decide ((stepRP w.members m.members m.by').2 = 0)) = true then (stepRP w.members m.members m.by').2
  else if (((stepRP w.members m.members m.by').1 && decide (m.cut = m.seq)) || (!(stepRP w.members m.members m.by').1 && decide (m.cut = w.cut))) = true then 0 else 11

def e_bsame : (List UInt8) × (List UInt8) → List AV := fun | (a, b) => [enc a, enc b]
def k_bsame : (List UInt8) × (List UInt8) → Prop := fun | (a, b) => a.length ≤ 9223372036854775807
def r_bsame : (List UInt8) × (List UInt8) → AV := fun | (a, b) => .bool (decide (a = b))
noncomputable def p_bsame : List AV → Store → Option (AV × Store) := primS e_bsame (gd k_bsame r_bsame)
theorem i_bsame : Inj e_bsame := by
  rintro ⟨a1, b1⟩ ⟨a2, b2⟩ h
  simpa only [e_bsame, enc_inj, rec_inj, AV.str.injEq, AV.int.injEq, AV.bool.injEq, AV.agg.injEq, AV.ptr.injEq, AV.fn.injEq, List.cons.injEq, and_true, true_and, Prod.mk.injEq] using h
theorem c_bsame {E : Env} (h : E.prim 11 = some fun _ => p_bsame) (a : List UInt8) (b : List UInt8) (hk : a.length ≤ 9223372036854775807) {S : Store} {K : AV → Store → Prop} {d : Dm K} : SpD E 11 [enc a, enc b] S K d = K (.bool (decide (a = b))) S :=
  callS h i_bsame (a := (a, b)) (by simp only [e_bsame, rdSL_cons, rdSL_nil, rdS_int, rdS_bool, rdS_str, enc_rdS, rdS_fn0, rdS_csl0, rdS_rec, rdSL_rec, rdS_agg, rdS_tup, Option.bind_some, Option.map_some]) hk
theorem c_bsame' {E : Env} (h : E.prim 11 = some fun _ => p_bsame) {S : Store} {x0 x1 : AV} {a : List UInt8} {b : List UInt8} (h0 : rdS S x0 = some (enc a)) (h1 : rdS S x1 = some (enc b)) (hk : a.length ≤ 9223372036854775807) {K : AV → Store → Prop} {d : Dm K} : SpD E 11 [x0, x1] S K d = K (.bool (decide (a = b))) S :=
  callS h i_bsame (a := (a, b)) (by simp only [e_bsame, rdSL, h0, h1, Option.bind_some, Option.map_some]) hk
def e_may : Mani → List AV := fun m => [.agg (maniL m)]
def k_may : Mani → Prop := fun m => longM m
def r_may : Mani → AV := fun m => .bool (mayP m)
noncomputable def p_may : List AV → Store → Option (AV × Store) := primS e_may (gd k_may r_may)
theorem i_may : Inj e_may := by
  intro m1 m2 h
  simpa only [e_may, enc_inj, rec_inj, AV.str.injEq, AV.int.injEq, AV.bool.injEq, AV.agg.injEq, AV.ptr.injEq, AV.fn.injEq, List.cons.injEq, and_true, true_and, Prod.mk.injEq, Mani.ext_iff, and_assoc] using h
theorem c_may {E : Env} (h : E.prim 14 = some fun _ => p_may) (m : Mani) (hk : longM m) {S : Store} {K : AV → Store → Prop} {d : Dm K} : SpD E 14 [.agg (maniL m)] S K d = K (.bool (mayP m)) S :=
  callS h i_may (a := m) (by simp only [e_may, rdSL_cons, rdSL_nil, rdS_int, rdS_bool, rdS_str, enc_rdS, rdS_fn0, rdS_csl0, rdS_rec, rdSL_rec, rdS_agg, rdS_tup, Option.bind_some, Option.map_some]) hk
theorem c_may' {E : Env} (h : E.prim 14 = some fun _ => p_may) {S : Store} {x0 : AV} {m : Mani} (h0 : rdS S x0 = some (.agg (maniL m))) (hk : longM m) {K : AV → Store → Prop} {d : Dm K} : SpD E 14 [x0] S K d = K (.bool (mayP m)) S :=
  callS h i_may (a := m) (by simp only [e_may, rdSL, h0, Option.bind_some, Option.map_some]) hk
def e_mayR : Mani → List AV := fun m => [.agg (maniL m)]
def k_mayR : Mani → Prop := fun m => longM m
def r_mayR : Mani → AV := fun m => .bool (mayP m)
noncomputable def p_mayR : List AV → Store → Option (AV × Store) := primS e_mayR (gd k_mayR r_mayR)
theorem i_mayR : Inj e_mayR := by
  intro m1 m2 h
  simpa only [e_mayR, enc_inj, rec_inj, AV.str.injEq, AV.int.injEq, AV.bool.injEq, AV.agg.injEq, AV.ptr.injEq, AV.fn.injEq, List.cons.injEq, and_true, true_and, Prod.mk.injEq, Mani.ext_iff, and_assoc] using h
theorem c_mayR {E : Env} (h : E.prim 18 = some fun _ => p_mayR) (m : Mani) (hk : longM m) {S : Store} {K : AV → Store → Prop} {d : Dm K} : SpD E 18 [.agg (maniL m)] S K d = K (.bool (mayP m)) S :=
  callS h i_mayR (a := m) (by simp only [e_mayR, rdSL_cons, rdSL_nil, rdS_int, rdS_bool, rdS_str, enc_rdS, rdS_fn0, rdS_csl0, rdS_rec, rdSL_rec, rdS_agg, rdS_tup, Option.bind_some, Option.map_some]) hk
theorem c_mayR' {E : Env} (h : E.prim 18 = some fun _ => p_mayR) {S : Store} {x0 : AV} {m : Mani} (h0 : rdS S x0 = some (.agg (maniL m))) (hk : longM m) {K : AV → Store → Prop} {d : Dm K} : SpD E 18 [x0] S K d = K (.bool (mayP m)) S :=
  callS h i_mayR (a := m) (by simp only [e_mayR, rdSL, h0, Option.bind_some, Option.map_some]) hk
def e_begins : Mani → List AV := fun m => [.agg (maniL m)]
def k_begins : Mani → Prop := fun m => longM m
def r_begins : Mani → AV := fun m => .int .i64 (beginsP m)
noncomputable def p_begins : List AV → Store → Option (AV × Store) := primS e_begins (gd k_begins r_begins)
theorem i_begins : Inj e_begins := by
  intro m1 m2 h
  simpa only [e_begins, enc_inj, rec_inj, AV.str.injEq, AV.int.injEq, AV.bool.injEq, AV.agg.injEq, AV.ptr.injEq, AV.fn.injEq, List.cons.injEq, and_true, true_and, Prod.mk.injEq, Mani.ext_iff, and_assoc] using h
theorem c_begins {E : Env} (h : E.prim 8 = some fun _ => p_begins) (m : Mani) (hk : longM m) {S : Store} {K : AV → Store → Prop} {d : Dm K} : SpD E 8 [.agg (maniL m)] S K d = K (.int .i64 (beginsP m)) S :=
  callS h i_begins (a := m) (by simp only [e_begins, rdSL_cons, rdSL_nil, rdS_int, rdS_bool, rdS_str, enc_rdS, rdS_fn0, rdS_csl0, rdS_rec, rdSL_rec, rdS_agg, rdS_tup, Option.bind_some, Option.map_some]) hk
theorem c_begins' {E : Env} (h : E.prim 8 = some fun _ => p_begins) {S : Store} {x0 : AV} {m : Mani} (h0 : rdS S x0 = some (.agg (maniL m))) (hk : longM m) {K : AV → Store → Prop} {d : Dm K} : SpD E 8 [x0] S K d = K (.int .i64 (beginsP m)) S :=
  callS h i_begins (a := m) (by simp only [e_begins, rdSL, h0, Option.bind_some, Option.map_some]) hk
def e_fewM : Mani → List AV := fun m => [.agg (maniL m)]
def k_fewM : Mani → Prop := fun m => m.members.length ≤ 9223372036854775807
def r_fewM : Mani → AV := fun m => .bool (fewM m)
noncomputable def p_fewM : List AV → Store → Option (AV × Store) := primS e_fewM (gd k_fewM r_fewM)
theorem i_fewM : Inj e_fewM := by
  intro m1 m2 h
  simpa only [e_fewM, enc_inj, rec_inj, AV.str.injEq, AV.int.injEq, AV.bool.injEq, AV.agg.injEq, AV.ptr.injEq, AV.fn.injEq, List.cons.injEq, and_true, true_and, Prod.mk.injEq, Mani.ext_iff, and_assoc] using h
theorem c_fewM {E : Env} (h : E.prim 5 = some fun _ => p_fewM) (m : Mani) (hk : m.members.length ≤ 9223372036854775807) {S : Store} {K : AV → Store → Prop} {d : Dm K} : SpD E 5 [.agg (maniL m)] S K d = K (.bool (fewM m)) S :=
  callS h i_fewM (a := m) (by simp only [e_fewM, rdSL_cons, rdSL_nil, rdS_int, rdS_bool, rdS_str, enc_rdS, rdS_fn0, rdS_csl0, rdS_rec, rdSL_rec, rdS_agg, rdS_tup, Option.bind_some, Option.map_some]) hk
theorem c_fewM' {E : Env} (h : E.prim 5 = some fun _ => p_fewM) {S : Store} {x0 : AV} {m : Mani} (h0 : rdS S x0 = some (.agg (maniL m))) (hk : m.members.length ≤ 9223372036854775807) {K : AV → Store → Prop} {d : Dm K} : SpD E 5 [x0] S K d = K (.bool (fewM m)) S :=
  callS h i_fewM (a := m) (by simp only [e_fewM, rdSL, h0, Option.bind_some, Option.map_some]) hk
def e_eqMem : (List Mem) × (List Mem) → List AV := fun | (l, m) => [enc l, enc m]
def k_eqMem : (List Mem) × (List Mem) → Prop := fun | (l, m) => l.length ≤ 9223372036854775807
def r_eqMem : (List Mem) × (List Mem) → AV := fun | (l, m) => .bool (decide (l = m))
noncomputable def p_eqMem : List AV → Store → Option (AV × Store) := primS e_eqMem (gd k_eqMem r_eqMem)
theorem i_eqMem : Inj e_eqMem := by
  rintro ⟨l1, m1⟩ ⟨l2, m2⟩ h
  simpa only [e_eqMem, enc_inj, rec_inj, AV.str.injEq, AV.int.injEq, AV.bool.injEq, AV.agg.injEq, AV.ptr.injEq, AV.fn.injEq, List.cons.injEq, and_true, true_and, Prod.mk.injEq] using h
theorem c_eqMem {E : Env} (h : E.prim 13 = some fun _ => p_eqMem) (l : List Mem) (m : List Mem) (hk : l.length ≤ 9223372036854775807) {S : Store} {K : AV → Store → Prop} {d : Dm K} : SpD E 13 [enc l, enc m] S K d = K (.bool (decide (l = m))) S :=
  callS h i_eqMem (a := (l, m)) (by simp only [e_eqMem, rdSL_cons, rdSL_nil, rdS_int, rdS_bool, rdS_str, enc_rdS, rdS_fn0, rdS_csl0, rdS_rec, rdSL_rec, rdS_agg, rdS_tup, Option.bind_some, Option.map_some]) hk
theorem c_eqMem' {E : Env} (h : E.prim 13 = some fun _ => p_eqMem) {S : Store} {x0 x1 : AV} {l : List Mem} {m : List Mem} (h0 : rdS S x0 = some (enc l)) (h1 : rdS S x1 = some (enc m)) (hk : l.length ≤ 9223372036854775807) {K : AV → Store → Prop} {d : Dm K} : SpD E 13 [x0, x1] S K d = K (.bool (decide (l = m))) S :=
  callS h i_eqMem (a := (l, m)) (by simp only [e_eqMem, rdSL, h0, h1, Option.bind_some, Option.map_some]) hk
def e_beq : (List UInt8) × (List UInt8) → List AV := fun | (a, b) => [enc a, enc b]
def k_beq : (List UInt8) × (List UInt8) → Prop := fun | (a, b) => True
def r_beq : (List UInt8) × (List UInt8) → AV := fun | (a, b) => .bool (decide (a = b))
noncomputable def p_beq : List AV → Store → Option (AV × Store) := primS e_beq (gd k_beq r_beq)
theorem i_beq : Inj e_beq := by
  rintro ⟨a1, b1⟩ ⟨a2, b2⟩ h
  simpa only [e_beq, enc_inj, rec_inj, AV.str.injEq, AV.int.injEq, AV.bool.injEq, AV.agg.injEq, AV.ptr.injEq, AV.fn.injEq, List.cons.injEq, and_true, true_and, Prod.mk.injEq] using h
theorem c_beq {E : Env} (h : E.prim 15 = some fun _ => p_beq) (a : List UInt8) (b : List UInt8) {S : Store} {K : AV → Store → Prop} {d : Dm K} : SpD E 15 [enc a, enc b] S K d = K (.bool (decide (a = b))) S :=
  callS h i_beq (a := (a, b)) (by simp only [e_beq, rdSL_cons, rdSL_nil, rdS_int, rdS_bool, rdS_str, enc_rdS, rdS_fn0, rdS_csl0, rdS_rec, rdSL_rec, rdS_agg, rdS_tup, Option.bind_some, Option.map_some]) trivial
theorem c_beq' {E : Env} (h : E.prim 15 = some fun _ => p_beq) {S : Store} {x0 x1 : AV} {a : List UInt8} {b : List UInt8} (h0 : rdS S x0 = some (enc a)) (h1 : rdS S x1 = some (enc b)) {K : AV → Store → Prop} {d : Dm K} : SpD E 15 [x0, x1] S K d = K (.bool (decide (a = b))) S :=
  callS h i_beq (a := (a, b)) (by simp only [e_beq, rdSL, h0, h1, Option.bind_some, Option.map_some]) trivial
def e_owner : Mani × Str → List AV := fun | (w, b) => [.agg (maniL w), .str b]
def k_owner : Mani × Str → Prop := fun | (w, b) => w.members.length ≤ 1000000
def r_owner : Mani × Str → AV := fun | (w, b) => .int .i64 (if ofP w.members b < 4 then 40 else 0)
noncomputable def p_owner : List AV → Store → Option (AV × Store) := primS e_owner (gd k_owner r_owner)
theorem i_owner : Inj e_owner := by
  rintro ⟨w1, b1⟩ ⟨w2, b2⟩ h
  simpa only [e_owner, enc_inj, rec_inj, AV.str.injEq, AV.int.injEq, AV.bool.injEq, AV.agg.injEq, AV.ptr.injEq, AV.fn.injEq, List.cons.injEq, and_true, true_and, Prod.mk.injEq, Mani.ext_iff, and_assoc] using h
theorem c_owner {E : Env} (h : E.prim 16 = some fun _ => p_owner) (w : Mani) (b : Str) (hk : w.members.length ≤ 1000000) {S : Store} {K : AV → Store → Prop} {d : Dm K} : SpD E 16 [.agg (maniL w), .str b] S K d = K (.int .i64 (if ofP w.members b < 4 then 40 else 0)) S :=
  callS h i_owner (a := (w, b)) (by simp only [e_owner, rdSL_cons, rdSL_nil, rdS_int, rdS_bool, rdS_str, enc_rdS, rdS_fn0, rdS_csl0, rdS_rec, rdSL_rec, rdS_agg, rdS_tup, Option.bind_some, Option.map_some]) hk
theorem c_owner' {E : Env} (h : E.prim 16 = some fun _ => p_owner) {S : Store} {x0 x1 : AV} {w : Mani} {b : Str} (h0 : rdS S x0 = some (.agg (maniL w))) (h1 : rdS S x1 = some (.str b)) (hk : w.members.length ≤ 1000000) {K : AV → Store → Prop} {d : Dm K} : SpD E 16 [x0, x1] S K d = K (.int .i64 (if ofP w.members b < 4 then 40 else 0)) S :=
  callS h i_owner (a := (w, b)) (by simp only [e_owner, rdSL, h0, h1, Option.bind_some, Option.map_some]) hk
def e_follows : Mani × (List UInt8) × Mani → List AV := fun | (w, x, m) => [.agg (maniL w), enc x, .agg (maniL m)]
def k_follows : Mani × (List UInt8) × Mani → Prop := fun | (w, x, m) => longM w ∧ longM m
def r_follows : Mani × (List UInt8) × Mani → AV := fun | (w, x, m) => .int .i64 (followsP w x m)
noncomputable def p_follows : List AV → Store → Option (AV × Store) := primS e_follows (gd k_follows r_follows)
theorem i_follows : Inj e_follows := by
  rintro ⟨w1, x1, m1⟩ ⟨w2, x2, m2⟩ h
  simpa only [e_follows, enc_inj, rec_inj, AV.str.injEq, AV.int.injEq, AV.bool.injEq, AV.agg.injEq, AV.ptr.injEq, AV.fn.injEq, List.cons.injEq, and_true, true_and, Prod.mk.injEq, Mani.ext_iff, and_assoc] using h
theorem c_follows {E : Env} (h : E.prim 6 = some fun _ => p_follows) (w : Mani) (x : List UInt8) (m : Mani) (hk : longM w ∧ longM m) {S : Store} {K : AV → Store → Prop} {d : Dm K} : SpD E 6 [.agg (maniL w), enc x, .agg (maniL m)] S K d = K (.int .i64 (followsP w x m)) S :=
  callS h i_follows (a := (w, x, m)) (by simp only [e_follows, rdSL_cons, rdSL_nil, rdS_int, rdS_bool, rdS_str, enc_rdS, rdS_fn0, rdS_csl0, rdS_rec, rdSL_rec, rdS_agg, rdS_tup, Option.bind_some, Option.map_some]) hk
theorem c_follows' {E : Env} (h : E.prim 6 = some fun _ => p_follows) {S : Store} {x0 x1 x2 : AV} {w : Mani} {x : List UInt8} {m : Mani} (h0 : rdS S x0 = some (.agg (maniL w))) (h1 : rdS S x1 = some (enc x)) (h2 : rdS S x2 = some (.agg (maniL m))) (hk : longM w ∧ longM m) {K : AV → Store → Prop} {d : Dm K} : SpD E 6 [x0, x1, x2] S K d = K (.int .i64 (followsP w x m)) S :=
  callS h i_follows (a := (w, x, m)) (by simp only [e_follows, rdSL, h0, h1, h2, Option.bind_some, Option.map_some]) hk
def e_followsR : Mani × (List UInt8) × Mani → List AV := fun | (w, x, m) => [.agg (maniL w), enc x, .agg (maniL m)]
def k_followsR : Mani × (List UInt8) × Mani → Prop := fun | (w, x, m) => longM w ∧ longM m
def r_followsR : Mani × (List UInt8) × Mani → AV := fun | (w, x, m) => .int .i64 (followsRP w x m)
noncomputable def p_followsR : List AV → Store → Option (AV × Store) := primS e_followsR (gd k_followsR r_followsR)
theorem i_followsR : Inj e_followsR := by
  rintro ⟨w1, x1, m1⟩ ⟨w2, x2, m2⟩ h
  simpa only [e_followsR, enc_inj, rec_inj, AV.str.injEq, AV.int.injEq, AV.bool.injEq, AV.agg.injEq, AV.ptr.injEq, AV.fn.injEq, List.cons.injEq, and_true, true_and, Prod.mk.injEq, Mani.ext_iff, and_assoc] using h
theorem c_followsR {E : Env} (h : E.prim 7 = some fun _ => p_followsR) (w : Mani) (x : List UInt8) (m : Mani) (hk : longM w ∧ longM m) {S : Store} {K : AV → Store → Prop} {d : Dm K} : SpD E 7 [.agg (maniL w), enc x, .agg (maniL m)] S K d = K (.int .i64 (followsRP w x m)) S :=
  callS h i_followsR (a := (w, x, m)) (by simp only [e_followsR, rdSL_cons, rdSL_nil, rdS_int, rdS_bool, rdS_str, enc_rdS, rdS_fn0, rdS_csl0, rdS_rec, rdSL_rec, rdS_agg, rdS_tup, Option.bind_some, Option.map_some]) hk
theorem c_followsR' {E : Env} (h : E.prim 7 = some fun _ => p_followsR) {S : Store} {x0 x1 x2 : AV} {w : Mani} {x : List UInt8} {m : Mani} (h0 : rdS S x0 = some (.agg (maniL w))) (h1 : rdS S x1 = some (enc x)) (h2 : rdS S x2 = some (.agg (maniL m))) (hk : longM w ∧ longM m) {K : AV → Store → Prop} {d : Dm K} : SpD E 7 [x0, x1, x2] S K d = K (.int .i64 (followsRP w x m)) S :=
  callS h i_followsR (a := (w, x, m)) (by simp only [e_followsR, rdSL, h0, h1, h2, Option.bind_some, Option.map_some]) hk
def e_beginsR : Mani → List AV := fun m => [.agg (maniL m)]
def k_beginsR : Mani → Prop := fun m => longM m
def r_beginsR : Mani → AV := fun m => .int .i64 (beginsRP m)
noncomputable def p_beginsR : List AV → Store → Option (AV × Store) := primS e_beginsR (gd k_beginsR r_beginsR)
theorem i_beginsR : Inj e_beginsR := by
  intro m1 m2 h
  simpa only [e_beginsR, enc_inj, rec_inj, AV.str.injEq, AV.int.injEq, AV.bool.injEq, AV.agg.injEq, AV.ptr.injEq, AV.fn.injEq, List.cons.injEq, and_true, true_and, Prod.mk.injEq, Mani.ext_iff, and_assoc] using h
theorem c_beginsR {E : Env} (h : E.prim 9 = some fun _ => p_beginsR) (m : Mani) (hk : longM m) {S : Store} {K : AV → Store → Prop} {d : Dm K} : SpD E 9 [.agg (maniL m)] S K d = K (.int .i64 (beginsRP m)) S :=
  callS h i_beginsR (a := m) (by simp only [e_beginsR, rdSL_cons, rdSL_nil, rdS_int, rdS_bool, rdS_str, enc_rdS, rdS_fn0, rdS_csl0, rdS_rec, rdSL_rec, rdS_agg, rdS_tup, Option.bind_some, Option.map_some]) hk
theorem c_beginsR' {E : Env} (h : E.prim 9 = some fun _ => p_beginsR) {S : Store} {x0 : AV} {m : Mani} (h0 : rdS S x0 = some (.agg (maniL m))) (hk : longM m) {K : AV → Store → Prop} {d : Dm K} : SpD E 9 [x0] S K d = K (.int .i64 (beginsRP m)) S :=
  callS h i_beginsR (a := m) (by simp only [e_beginsR, rdSL, h0, Option.bind_some, Option.map_some]) hk
def e_awake28 : Unit → List AV := fun _ => []
def k_awake28 : Unit → Prop := fun _ => True
def r_awake28 : Unit → AV := fun _ => .bool true
noncomputable def p_awake28 : List AV → Store → Option (AV × Store) := primS e_awake28 (gd k_awake28 r_awake28)
theorem i_awake28 : Inj e_awake28 := fun _ _ _ => rfl
theorem c_awake28 {E : Env} (h : E.prim 4 = some fun _ => p_awake28)  {S : Store} {K : AV → Store → Prop} {d : Dm K} : SpD E 4 [] S K d = K (.bool true) S :=
  callS h i_awake28 (a := ()) (by simp only [e_awake28, rdSL_cons, rdSL_nil, rdS_int, rdS_bool, rdS_str, enc_rdS, rdS_fn0, rdS_csl0, rdS_rec, rdSL_rec, rdS_agg, rdS_tup, Option.bind_some, Option.map_some]) trivial
def e_manifestFollows : Mani × (List UInt8) × Mani → List AV := fun | (w, x, m) => [.agg (maniL w), enc x, .agg (maniL m)]
def k_manifestFollows : Mani × (List UInt8) × Mani → Prop := fun | (w, x, m) => (w.members.length ≤ 9223372036854775807 ∧ m.members.length ≤ 9223372036854775807) ∧ x.length ≤ 9223372036854775807
def r_manifestFollows : Mani × (List UInt8) × Mani → AV := fun | (w, x, m) => .bool true
noncomputable def p_manifestFollows : List AV → Store → Option (AV × Store) := primS e_manifestFollows (gd k_manifestFollows r_manifestFollows)
theorem i_manifestFollows : Inj e_manifestFollows := by
  rintro ⟨w1, x1, m1⟩ ⟨w2, x2, m2⟩ h
  simpa only [e_manifestFollows, enc_inj, rec_inj, AV.str.injEq, AV.int.injEq, AV.bool.injEq, AV.agg.injEq, AV.ptr.injEq, AV.fn.injEq, List.cons.injEq, and_true, true_and, Prod.mk.injEq, Mani.ext_iff, and_assoc] using h
theorem c_manifestFollows {E : Env} (h : E.prim 3 = some fun _ => p_manifestFollows) (w : Mani) (x : List UInt8) (m : Mani) (hk : (w.members.length ≤ 9223372036854775807 ∧ m.members.length ≤ 9223372036854775807) ∧ x.length ≤ 9223372036854775807) {S : Store} {K : AV → Store → Prop} {d : Dm K} : SpD E 3 [.agg (maniL w), enc x, .agg (maniL m)] S K d = K (.bool true) S :=
  callS h i_manifestFollows (a := (w, x, m)) (by simp only [e_manifestFollows, rdSL_cons, rdSL_nil, rdS_int, rdS_bool, rdS_str, enc_rdS, rdS_fn0, rdS_csl0, rdS_rec, rdSL_rec, rdS_agg, rdS_tup, Option.bind_some, Option.map_some]) hk
theorem c_manifestFollows' {E : Env} (h : E.prim 3 = some fun _ => p_manifestFollows) {S : Store} {x0 x1 x2 : AV} {w : Mani} {x : List UInt8} {m : Mani} (h0 : rdS S x0 = some (.agg (maniL w))) (h1 : rdS S x1 = some (enc x)) (h2 : rdS S x2 = some (.agg (maniL m))) (hk : (w.members.length ≤ 9223372036854775807 ∧ m.members.length ≤ 9223372036854775807) ∧ x.length ≤ 9223372036854775807) {K : AV → Store → Prop} {d : Dm K} : SpD E 3 [x0, x1, x2] S K d = K (.bool true) S :=
  callS h i_manifestFollows (a := (w, x, m)) (by simp only [e_manifestFollows, rdSL, h0, h1, h2, Option.bind_some, Option.map_some]) hk
end Go.Proofs.Ytmijfhepagobdaa.Avm
