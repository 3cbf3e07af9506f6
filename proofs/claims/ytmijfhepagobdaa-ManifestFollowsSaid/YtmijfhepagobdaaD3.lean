/- What the steps and the document's functions answer. -/
import Derived.Test.YtmijfhepagobdaaS5
set_option linter.unusedVariables false
set_option linter.unusedSimpArgs false
namespace Go.Proofs.Ytmijfhepagobdaa.Avm
deriving instance DecidableEq for Mem
theorem mem_ext {a b : Mem} : a = b ↔ a.name = b.name ∧ a.role = b.role := by cases a; cases b; simp
@[go_sem] theorem neq_mem (a b : Mem) : eqsA true [1, 0] (.agg [.str a.name, .int .i64 a.role]) (.agg [.str b.name, .int .i64 b.role]) = some (.bool !decide (a = b)) := by
  rw [eqsA_n _ _ _ rfl rfl (aeqs_s _ _ _ _ _ (aeqs_i _ _ _ _ _ _ aeqs_nil))]
  simp [mem_ext]
@[go_sem] theorem eq_mem (a b : Mem) : eqsA false [1, 0] (.agg [.str a.name, .int .i64 a.role]) (.agg [.str b.name, .int .i64 b.role]) = some (.bool (decide (a = b))) := by
  rw [eqsA_e _ _ _ rfl rfl (aeqs_s _ _ _ _ _ (aeqs_i _ _ _ _ _ _ aeqs_nil))]
  simp [mem_ext]

def stepE (was now : List Mem) (by' name : Str) : Int :=
  if ofP now name = 0 then (revokeP was by' name).2 else if atP was name < 0 then (shareP was by' name (ofP now name)).2 else (changeP was by' name (ofP now name)).2
def stepP (was now : List Mem) (by' : Str) : Bool × Int :=
  if rightP was = false ∨ rightP now = false then (false, 2)
  else if (differP was now).length ≠ 1 then (false, 11)
  else
    let name := (differP was now).headD []
    (decide (ofP now name = 0) && decide (stepE was now by' name = 0), stepE was now by' name)

def ownersRP (l : List Mem) : Nat := (l.filter fun m => decide (m.role = 4)).length
def shareRP (l : List Mem) (by' name : Str) (r : Int) : Int :=
  if ofP l by' < 3 then 40 else if ofP l name > 0 then 42 else if r > 2 ∧ ofP l by' < 4 then 40 else if l.length = 8 then 3 else 0
def changeRP (l : List Mem) (by' name : Str) (r : Int) : Int :=
  if ofP l by' < 3 then 40 else if ofP l name = 0 then 35 else if ofP l by' < 4 ∧ (r > 2 ∨ ofP l name > 2) then 40 else if ofP l name = 4 ∧ r < 4 ∧ ownersRP l = 1 then 46 else 0
def revokeRP (l : List Mem) (by' name : Str) : Int :=
  if by' ≠ name ∧ ofP l by' < 3 then 40 else if ofP l name = 0 then 35 else if by' ≠ name ∧ ofP l name > 2 ∧ ofP l by' < 4 then 40 else if ofP l name = 4 ∧ ownersRP l = 1 then 46 else 0
def stepRP (was now : List Mem) (by' : Str) : Bool × Int :=
  if rightP was = false ∨ rightP now = false then (false, 2)
  else if (differP was now).length ≠ 1 then (false, 11)
  else
    let name := (differP was now).headD []
    if ofP now name = 0 then (decide (revokeRP was by' name = 0), revokeRP was by' name)
    else if ofP was name = 0 then (false, shareRP was by' name (ofP now name)) else (false, changeRP was by' name (ofP now name))
def fewP (l : List Mem) : Bool := l.all (fun m => decide (m.name.length ≤ 20)) && decide (l.length ≤ 20)

def e_step : (List Mem) × (List Mem) × Str → List AV := fun | (l, m, b) => [enc l, enc m, .str b]
def k_step : (List Mem) × (List Mem) × Str → Prop := fun | (l, m, b) => long1 l ∧ long1 m
def r_step : (List Mem) × (List Mem) × Str → AV := fun | (l, m, b) => .tup [.bool (stepP l m b).1, .int .i64 (stepP l m b).2]
noncomputable def p_step : List AV → Store → Option (AV × Store) := primS e_step (gd k_step r_step)
theorem i_step : Inj e_step := by
  rintro ⟨l1, m1, b1⟩ ⟨l2, m2, b2⟩ h
  simpa only [e_step, enc_inj, rec_inj, AV.str.injEq, AV.int.injEq, AV.bool.injEq, AV.agg.injEq, AV.ptr.injEq, AV.fn.injEq, List.cons.injEq, and_true, true_and, Prod.mk.injEq] using h
theorem c_step {E : Env} (h : E.prim 17 = some fun _ => p_step) (l : List Mem) (m : List Mem) (b : Str) (hk : long1 l ∧ long1 m) {S : Store} {K : AV → Store → Prop} {d : Dm K} : SpD E 17 [enc l, enc m, .str b] S K d = K (.tup [.bool (stepP l m b).1, .int .i64 (stepP l m b).2]) S :=
  callS h i_step (a := (l, m, b)) (by simp only [e_step, rdSL_cons, rdSL_nil, rdS_int, rdS_bool, rdS_str, enc_rdS, rdS_fn0, rdS_csl0, rdS_rec, rdSL_rec, rdS_agg, rdS_tup, Option.bind_some, Option.map_some]) hk
theorem c_step' {E : Env} (h : E.prim 17 = some fun _ => p_step) {S : Store} {x0 x1 x2 : AV} {l : List Mem} {m : List Mem} {b : Str} (h0 : rdS S x0 = some (enc l)) (h1 : rdS S x1 = some (enc m)) (h2 : rdS S x2 = some (.str b)) (hk : long1 l ∧ long1 m) {K : AV → Store → Prop} {d : Dm K} : SpD E 17 [x0, x1, x2] S K d = K (.tup [.bool (stepP l m b).1, .int .i64 (stepP l m b).2]) S :=
  callS h i_step (a := (l, m, b)) (by simp only [e_step, rdSL, h0, h1, h2, Option.bind_some, Option.map_some]) hk
def e_ofR : (List Mem) × Str → List AV := fun | (l, n) => [enc l, .str n]
def k_ofR : (List Mem) × Str → Prop := fun | (l, n) => l.length ≤ 9223372036854775807
def r_ofR : (List Mem) × Str → AV := fun | (l, n) => .int .i64 (ofP l n)
noncomputable def p_ofR : List AV → Store → Option (AV × Store) := primS e_ofR (gd k_ofR r_ofR)
theorem i_ofR : Inj e_ofR := by
  rintro ⟨l1, n1⟩ ⟨l2, n2⟩ h
  simpa only [e_ofR, enc_inj, rec_inj, AV.str.injEq, AV.int.injEq, AV.bool.injEq, AV.agg.injEq, AV.ptr.injEq, AV.fn.injEq, List.cons.injEq, and_true, true_and, Prod.mk.injEq] using h
theorem c_ofR {E : Env} (h : E.prim 20 = some fun _ => p_ofR) (l : List Mem) (n : Str) (hk : l.length ≤ 9223372036854775807) {S : Store} {K : AV → Store → Prop} {d : Dm K} : SpD E 20 [enc l, .str n] S K d = K (.int .i64 (ofP l n)) S :=
  callS h i_ofR (a := (l, n)) (by simp only [e_ofR, rdSL_cons, rdSL_nil, rdS_int, rdS_bool, rdS_str, enc_rdS, rdS_fn0, rdS_csl0, rdS_rec, rdSL_rec, rdS_agg, rdS_tup, Option.bind_some, Option.map_some]) hk
theorem c_ofR' {E : Env} (h : E.prim 20 = some fun _ => p_ofR) {S : Store} {x0 x1 : AV} {l : List Mem} {n : Str} (h0 : rdS S x0 = some (enc l)) (h1 : rdS S x1 = some (.str n)) (hk : l.length ≤ 9223372036854775807) {K : AV → Store → Prop} {d : Dm K} : SpD E 20 [x0, x1] S K d = K (.int .i64 (ofP l n)) S :=
  callS h i_ofR (a := (l, n)) (by simp only [e_ofR, rdSL, h0, h1, Option.bind_some, Option.map_some]) hk
def e_ownersR : List Mem → List AV := fun l => [enc l]
def k_ownersR : List Mem → Prop := fun l => l.length ≤ 1000000
def r_ownersR : List Mem → AV := fun l => .int .i64 (ownersRP l)
noncomputable def p_ownersR : List AV → Store → Option (AV × Store) := primS e_ownersR (gd k_ownersR r_ownersR)
theorem i_ownersR : Inj e_ownersR := by
  intro l1 l2 h
  simpa only [e_ownersR, enc_inj, rec_inj, AV.str.injEq, AV.int.injEq, AV.bool.injEq, AV.agg.injEq, AV.ptr.injEq, AV.fn.injEq, List.cons.injEq, and_true, true_and, Prod.mk.injEq] using h
theorem c_ownersR {E : Env} (h : E.prim 58 = some fun _ => p_ownersR) (l : List Mem) (hk : l.length ≤ 1000000) {S : Store} {K : AV → Store → Prop} {d : Dm K} : SpD E 58 [enc l] S K d = K (.int .i64 (ownersRP l)) S :=
  callS h i_ownersR (a := l) (by simp only [e_ownersR, rdSL_cons, rdSL_nil, rdS_int, rdS_bool, rdS_str, enc_rdS, rdS_fn0, rdS_csl0, rdS_rec, rdSL_rec, rdS_agg, rdS_tup, Option.bind_some, Option.map_some]) hk
theorem c_ownersR' {E : Env} (h : E.prim 58 = some fun _ => p_ownersR) {S : Store} {x0 : AV} {l : List Mem} (h0 : rdS S x0 = some (enc l)) (hk : l.length ≤ 1000000) {K : AV → Store → Prop} {d : Dm K} : SpD E 58 [x0] S K d = K (.int .i64 (ownersRP l)) S :=
  callS h i_ownersR (a := l) (by simp only [e_ownersR, rdSL, h0, Option.bind_some, Option.map_some]) hk
def e_rightR : List Mem → List AV := fun l => [enc l]
def k_rightR : List Mem → Prop := fun l => long1 l
def r_rightR : List Mem → AV := fun l => .bool (rightP l)
noncomputable def p_rightR : List AV → Store → Option (AV × Store) := primS e_rightR (gd k_rightR r_rightR)
theorem i_rightR : Inj e_rightR := by
  intro l1 l2 h
  simpa only [e_rightR, enc_inj, rec_inj, AV.str.injEq, AV.int.injEq, AV.bool.injEq, AV.agg.injEq, AV.ptr.injEq, AV.fn.injEq, List.cons.injEq, and_true, true_and, Prod.mk.injEq] using h
theorem c_rightR {E : Env} (h : E.prim 41 = some fun _ => p_rightR) (l : List Mem) (hk : long1 l) {S : Store} {K : AV → Store → Prop} {d : Dm K} : SpD E 41 [enc l] S K d = K (.bool (rightP l)) S :=
  callS h i_rightR (a := l) (by simp only [e_rightR, rdSL_cons, rdSL_nil, rdS_int, rdS_bool, rdS_str, enc_rdS, rdS_fn0, rdS_csl0, rdS_rec, rdSL_rec, rdS_agg, rdS_tup, Option.bind_some, Option.map_some]) hk
theorem c_rightR' {E : Env} (h : E.prim 41 = some fun _ => p_rightR) {S : Store} {x0 : AV} {l : List Mem} (h0 : rdS S x0 = some (enc l)) (hk : long1 l) {K : AV → Store → Prop} {d : Dm K} : SpD E 41 [x0] S K d = K (.bool (rightP l)) S :=
  callS h i_rightR (a := l) (by simp only [e_rightR, rdSL, h0, Option.bind_some, Option.map_some]) hk
def e_shareR : (List Mem) × Str × Str × Int → List AV := fun | (l, b, n, r) => [enc l, .str b, .str n, .int .i64 r]
def k_shareR : (List Mem) × Str × Str × Int → Prop := fun | (l, b, n, r) => l.length ≤ 1000000
def r_shareR : (List Mem) × Str × Str × Int → AV := fun | (l, b, n, r) => .int .i64 (shareRP l b n r)
noncomputable def p_shareR : List AV → Store → Option (AV × Store) := primS e_shareR (gd k_shareR r_shareR)
theorem i_shareR : Inj e_shareR := by
  rintro ⟨l1, b1, n1, r1⟩ ⟨l2, b2, n2, r2⟩ h
  simpa only [e_shareR, enc_inj, rec_inj, AV.str.injEq, AV.int.injEq, AV.bool.injEq, AV.agg.injEq, AV.ptr.injEq, AV.fn.injEq, List.cons.injEq, and_true, true_and, Prod.mk.injEq] using h
theorem c_shareR {E : Env} (h : E.prim 43 = some fun _ => p_shareR) (l : List Mem) (b : Str) (n : Str) (r : Int) (hk : l.length ≤ 1000000) {S : Store} {K : AV → Store → Prop} {d : Dm K} : SpD E 43 [enc l, .str b, .str n, .int .i64 r] S K d = K (.int .i64 (shareRP l b n r)) S :=
  callS h i_shareR (a := (l, b, n, r)) (by simp only [e_shareR, rdSL_cons, rdSL_nil, rdS_int, rdS_bool, rdS_str, enc_rdS, rdS_fn0, rdS_csl0, rdS_rec, rdSL_rec, rdS_agg, rdS_tup, Option.bind_some, Option.map_some]) hk
theorem c_shareR' {E : Env} (h : E.prim 43 = some fun _ => p_shareR) {S : Store} {x0 x1 x2 x3 : AV} {l : List Mem} {b : Str} {n : Str} {r : Int} (h0 : rdS S x0 = some (enc l)) (h1 : rdS S x1 = some (.str b)) (h2 : rdS S x2 = some (.str n)) (h3 : rdS S x3 = some (.int .i64 r)) (hk : l.length ≤ 1000000) {K : AV → Store → Prop} {d : Dm K} : SpD E 43 [x0, x1, x2, x3] S K d = K (.int .i64 (shareRP l b n r)) S :=
  callS h i_shareR (a := (l, b, n, r)) (by simp only [e_shareR, rdSL, h0, h1, h2, h3, Option.bind_some, Option.map_some]) hk
def e_changeR : (List Mem) × Str × Str × Int → List AV := fun | (l, b, n, r) => [enc l, .str b, .str n, .int .i64 r]
def k_changeR : (List Mem) × Str × Str × Int → Prop := fun | (l, b, n, r) => l.length ≤ 1000000
def r_changeR : (List Mem) × Str × Str × Int → AV := fun | (l, b, n, r) => .int .i64 (changeRP l b n r)
noncomputable def p_changeR : List AV → Store → Option (AV × Store) := primS e_changeR (gd k_changeR r_changeR)
theorem i_changeR : Inj e_changeR := by
  rintro ⟨l1, b1, n1, r1⟩ ⟨l2, b2, n2, r2⟩ h
  simpa only [e_changeR, enc_inj, rec_inj, AV.str.injEq, AV.int.injEq, AV.bool.injEq, AV.agg.injEq, AV.ptr.injEq, AV.fn.injEq, List.cons.injEq, and_true, true_and, Prod.mk.injEq] using h
theorem c_changeR {E : Env} (h : E.prim 44 = some fun _ => p_changeR) (l : List Mem) (b : Str) (n : Str) (r : Int) (hk : l.length ≤ 1000000) {S : Store} {K : AV → Store → Prop} {d : Dm K} : SpD E 44 [enc l, .str b, .str n, .int .i64 r] S K d = K (.int .i64 (changeRP l b n r)) S :=
  callS h i_changeR (a := (l, b, n, r)) (by simp only [e_changeR, rdSL_cons, rdSL_nil, rdS_int, rdS_bool, rdS_str, enc_rdS, rdS_fn0, rdS_csl0, rdS_rec, rdSL_rec, rdS_agg, rdS_tup, Option.bind_some, Option.map_some]) hk
theorem c_changeR' {E : Env} (h : E.prim 44 = some fun _ => p_changeR) {S : Store} {x0 x1 x2 x3 : AV} {l : List Mem} {b : Str} {n : Str} {r : Int} (h0 : rdS S x0 = some (enc l)) (h1 : rdS S x1 = some (.str b)) (h2 : rdS S x2 = some (.str n)) (h3 : rdS S x3 = some (.int .i64 r)) (hk : l.length ≤ 1000000) {K : AV → Store → Prop} {d : Dm K} : SpD E 44 [x0, x1, x2, x3] S K d = K (.int .i64 (changeRP l b n r)) S :=
  callS h i_changeR (a := (l, b, n, r)) (by simp only [e_changeR, rdSL, h0, h1, h2, h3, Option.bind_some, Option.map_some]) hk
def e_revokeR : (List Mem) × Str × Str → List AV := fun | (l, b, n) => [enc l, .str b, .str n]
def k_revokeR : (List Mem) × Str × Str → Prop := fun | (l, b, n) => l.length ≤ 1000000
def r_revokeR : (List Mem) × Str × Str → AV := fun | (l, b, n) => .int .i64 (revokeRP l b n)
noncomputable def p_revokeR : List AV → Store → Option (AV × Store) := primS e_revokeR (gd k_revokeR r_revokeR)
theorem i_revokeR : Inj e_revokeR := by
  rintro ⟨l1, b1, n1⟩ ⟨l2, b2, n2⟩ h
  simpa only [e_revokeR, enc_inj, rec_inj, AV.str.injEq, AV.int.injEq, AV.bool.injEq, AV.agg.injEq, AV.ptr.injEq, AV.fn.injEq, List.cons.injEq, and_true, true_and, Prod.mk.injEq] using h
theorem c_revokeR {E : Env} (h : E.prim 42 = some fun _ => p_revokeR) (l : List Mem) (b : Str) (n : Str) (hk : l.length ≤ 1000000) {S : Store} {K : AV → Store → Prop} {d : Dm K} : SpD E 42 [enc l, .str b, .str n] S K d = K (.int .i64 (revokeRP l b n)) S :=
  callS h i_revokeR (a := (l, b, n)) (by simp only [e_revokeR, rdSL_cons, rdSL_nil, rdS_int, rdS_bool, rdS_str, enc_rdS, rdS_fn0, rdS_csl0, rdS_rec, rdSL_rec, rdS_agg, rdS_tup, Option.bind_some, Option.map_some]) hk
theorem c_revokeR' {E : Env} (h : E.prim 42 = some fun _ => p_revokeR) {S : Store} {x0 x1 x2 : AV} {l : List Mem} {b : Str} {n : Str} (h0 : rdS S x0 = some (enc l)) (h1 : rdS S x1 = some (.str b)) (h2 : rdS S x2 = some (.str n)) (hk : l.length ≤ 1000000) {K : AV → Store → Prop} {d : Dm K} : SpD E 42 [x0, x1, x2] S K d = K (.int .i64 (revokeRP l b n)) S :=
  callS h i_revokeR (a := (l, b, n)) (by simp only [e_revokeR, rdSL, h0, h1, h2, Option.bind_some, Option.map_some]) hk
def e_stepR : (List Mem) × (List Mem) × Str → List AV := fun | (l, m, b) => [enc l, enc m, .str b]
def k_stepR : (List Mem) × (List Mem) × Str → Prop := fun | (l, m, b) => long1 l ∧ long1 m
def r_stepR : (List Mem) × (List Mem) × Str → AV := fun | (l, m, b) => .tup [.bool (stepRP l m b).1, .int .i64 (stepRP l m b).2]
noncomputable def p_stepR : List AV → Store → Option (AV × Store) := primS e_stepR (gd k_stepR r_stepR)
theorem i_stepR : Inj e_stepR := by
  rintro ⟨l1, m1, b1⟩ ⟨l2, m2, b2⟩ h
  simpa only [e_stepR, enc_inj, rec_inj, AV.str.injEq, AV.int.injEq, AV.bool.injEq, AV.agg.injEq, AV.ptr.injEq, AV.fn.injEq, List.cons.injEq, and_true, true_and, Prod.mk.injEq] using h
theorem c_stepR {E : Env} (h : E.prim 21 = some fun _ => p_stepR) (l : List Mem) (m : List Mem) (b : Str) (hk : long1 l ∧ long1 m) {S : Store} {K : AV → Store → Prop} {d : Dm K} : SpD E 21 [enc l, enc m, .str b] S K d = K (.tup [.bool (stepRP l m b).1, .int .i64 (stepRP l m b).2]) S :=
  callS h i_stepR (a := (l, m, b)) (by simp only [e_stepR, rdSL_cons, rdSL_nil, rdS_int, rdS_bool, rdS_str, enc_rdS, rdS_fn0, rdS_csl0, rdS_rec, rdSL_rec, rdS_agg, rdS_tup, Option.bind_some, Option.map_some]) hk
theorem c_stepR' {E : Env} (h : E.prim 21 = some fun _ => p_stepR) {S : Store} {x0 x1 x2 : AV} {l : List Mem} {m : List Mem} {b : Str} (h0 : rdS S x0 = some (enc l)) (h1 : rdS S x1 = some (enc m)) (h2 : rdS S x2 = some (.str b)) (hk : long1 l ∧ long1 m) {K : AV → Store → Prop} {d : Dm K} : SpD E 21 [x0, x1, x2] S K d = K (.tup [.bool (stepRP l m b).1, .int .i64 (stepRP l m b).2]) S :=
  callS h i_stepR (a := (l, m, b)) (by simp only [e_stepR, rdSL, h0, h1, h2, Option.bind_some, Option.map_some]) hk
def e_sameR : (List Mem) × (List Mem) → List AV := fun | (l, m) => [enc l, enc m]
def k_sameR : (List Mem) × (List Mem) → Prop := fun | (l, m) => l.length ≤ 9223372036854775807
def r_sameR : (List Mem) × (List Mem) → AV := fun | (l, m) => .bool (decide (l = m))
noncomputable def p_sameR : List AV → Store → Option (AV × Store) := primS e_sameR (gd k_sameR r_sameR)
theorem i_sameR : Inj e_sameR := by
  rintro ⟨l1, m1⟩ ⟨l2, m2⟩ h
  simpa only [e_sameR, enc_inj, rec_inj, AV.str.injEq, AV.int.injEq, AV.bool.injEq, AV.agg.injEq, AV.ptr.injEq, AV.fn.injEq, List.cons.injEq, and_true, true_and, Prod.mk.injEq] using h
theorem c_sameR {E : Env} (h : E.prim 19 = some fun _ => p_sameR) (l : List Mem) (m : List Mem) (hk : l.length ≤ 9223372036854775807) {S : Store} {K : AV → Store → Prop} {d : Dm K} : SpD E 19 [enc l, enc m] S K d = K (.bool (decide (l = m))) S :=
  callS h i_sameR (a := (l, m)) (by simp only [e_sameR, rdSL_cons, rdSL_nil, rdS_int, rdS_bool, rdS_str, enc_rdS, rdS_fn0, rdS_csl0, rdS_rec, rdSL_rec, rdS_agg, rdS_tup, Option.bind_some, Option.map_some]) hk
theorem c_sameR' {E : Env} (h : E.prim 19 = some fun _ => p_sameR) {S : Store} {x0 x1 : AV} {l : List Mem} {m : List Mem} (h0 : rdS S x0 = some (enc l)) (h1 : rdS S x1 = some (enc m)) (hk : l.length ≤ 9223372036854775807) {K : AV → Store → Prop} {d : Dm K} : SpD E 19 [x0, x1] S K d = K (.bool (decide (l = m))) S :=
  callS h i_sameR (a := (l, m)) (by simp only [e_sameR, rdSL, h0, h1, Option.bind_some, Option.map_some]) hk
end Go.Proofs.Ytmijfhepagobdaa.Avm
