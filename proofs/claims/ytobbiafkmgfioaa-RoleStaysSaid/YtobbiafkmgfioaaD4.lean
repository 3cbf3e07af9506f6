/- What the calls and the staying right are measured by. -/
import Derived.Test.YtobbiafkmgfioaaS8
set_option linter.unusedVariables false
set_option linter.unusedSimpArgs false
namespace Go.Proofs.Ytobbiafkmgfioaa.Avm

/-- a round: a name goes in at its place, its elder entry out -/
def wStep (n : Str) (r : Int) (p : Bool × List Mem) (m : Mem) : Bool × List Mem :=
  let q := if p.1 = false ∧ (Op.bytesLess n m.name || decide (n = m.name)) = true then (true, p.2 ++ [⟨n, r⟩]) else p
  if m.name = n then q else (q.1, q.2 ++ [m])
def wFold (n : Str) (r : Int) (l : List Mem) : Bool × List Mem := l.foldl (wStep n r) (decide (r = 0), [])
def withRP (l : List Mem) (n : Str) (r : Int) : List Mem := if (wFold n r l).1 = true then (wFold n r l).2 else (wFold n r l).2 ++ [⟨n, r⟩]

def e_withR : (List Mem) × Str × Int → List AV := fun | (l, n, r) => [enc l, .str n, .int .i64 r]
def k_withR : (List Mem) × Str × Int → Prop := fun | (l, n, r) => l.length ≤ 1000000
def r_withR : (List Mem) × Str × Int → AV := fun | (l, n, r) => enc (withRP l n r)
noncomputable def p_withR : List AV → Store → Option (AV × Store) := primG e_withR (gd k_withR r_withR)
theorem i_withR : Inj e_withR := by
  rintro ⟨l1, n1, r1⟩ ⟨l2, n2, r2⟩ h
  simpa only [e_withR, enc_inj, rec_inj, AV.str.injEq, AV.int.injEq, AV.bool.injEq, AV.agg.injEq, AV.ptr.injEq, AV.fn.injEq, List.cons.injEq, and_true, true_and, Prod.mk.injEq] using h
theorem c_withR {E : Env} (h : E.prim 70 = some fun _ => p_withR) (l : List Mem) (n : Str) (r : Int) (hk : l.length ≤ 1000000) {S : Store} {K : AV → Store → Prop} {d : Dm K} : SpD E 70 [enc l, .str n, .int .i64 r] S K d = K (enc (withRP l n r)) S := by
  have := callG h i_withR (a := (l, n, r)) (S := S) (args := [enc l, .str n, .int .i64 r]) (K := K) (d := d) (by simp only [e_withR, rdSL_cons, rdSL_nil, rdS_int, rdS_bool, rdS_str, enc_rdS, rdS_fn0, rdS_csl0, rdS_rec, rdSL_rec, rdS_agg, rdS_tup, Option.bind_some, Option.map_some]) hk
  simpa only [r_withR, topL_cons, topL_nil, top_int, top_bool, top_str, top_csl, enc_top, top_agg, top_rec, top_fn, List.nil_append, killL_nil] using this
theorem c_withR' {E : Env} (h : E.prim 70 = some fun _ => p_withR) {S : Store} {x0 x1 x2 : AV} {l : List Mem} {n : Str} {r : Int} (h0 : rdS S x0 = some (enc l)) (h1 : rdS S x1 = some (.str n)) (h2 : rdS S x2 = some (.int .i64 r)) (hk : l.length ≤ 1000000) {K : AV → Store → Prop} {d : Dm K} : SpD E 70 [x0, x1, x2] S K d = K (enc (withRP l n r)) (killL (topIdsL [x0, x1, x2]) S) :=
  callG h i_withR (a := (l, n, r)) (by simp only [e_withR, rdSL, h0, h1, h2, Option.bind_some, Option.map_some]) hk
def e_roleCalls : (List Mem) × Str × Str × Int → List AV := fun | (l, a, b, r) => [enc l, .agg [.str a, .str b], .int .i64 r]
def k_roleCalls : (List Mem) × Str × Str × Int → Prop := fun | (l, a, b, r) => l.length ≤ 9223372036854775807
def r_roleCalls : (List Mem) × Str × Str × Int → AV := fun | (l, a, b, r) => .bool true
noncomputable def p_roleCalls : List AV → Store → Option (AV × Store) := primS e_roleCalls (gd k_roleCalls r_roleCalls)
theorem i_roleCalls : Inj e_roleCalls := by
  rintro ⟨l1, a1, b1, r1⟩ ⟨l2, a2, b2, r2⟩ h
  simpa only [e_roleCalls, enc_inj, rec_inj, AV.str.injEq, AV.int.injEq, AV.bool.injEq, AV.agg.injEq, AV.ptr.injEq, AV.fn.injEq, List.cons.injEq, and_true, true_and, Prod.mk.injEq, and_assoc] using h
theorem c_roleCalls {E : Env} (h : E.prim 9 = some fun _ => p_roleCalls) (l : List Mem) (a : Str) (b : Str) (r : Int) (hk : l.length ≤ 9223372036854775807) {S : Store} {K : AV → Store → Prop} {d : Dm K} : SpD E 9 [enc l, .agg [.str a, .str b], .int .i64 r] S K d = K (.bool true) S :=
  callS h i_roleCalls (a := (l, a, b, r)) (by simp only [e_roleCalls, rdSL_cons, rdSL_nil, rdS_int, rdS_bool, rdS_str, enc_rdS, rdS_fn0, rdS_csl0, rdS_rec, rdSL_rec, rdS_agg, rdS_tup, Option.bind_some, Option.map_some]) hk
theorem c_roleCalls' {E : Env} (h : E.prim 9 = some fun _ => p_roleCalls) {S : Store} {x0 x1 x2 : AV} {l : List Mem} {a : Str} {b : Str} {r : Int} (h0 : rdS S x0 = some (enc l)) (h1 : rdS S x1 = some (.agg [.str a, .str b])) (h2 : rdS S x2 = some (.int .i64 r)) (hk : l.length ≤ 9223372036854775807) {K : AV → Store → Prop} {d : Dm K} : SpD E 9 [x0, x1, x2] S K d = K (.bool true) S :=
  callS h i_roleCalls (a := (l, a, b, r)) (by simp only [e_roleCalls, rdSL, h0, h1, h2, Option.bind_some, Option.map_some]) hk
end Go.Proofs.Ytobbiafkmgfioaa.Avm
