/- What sharing, changing and revoking answer. -/
import Derived.Test.YtmijfhepagobdaaS2
set_option linter.unusedVariables false
set_option linter.unusedSimpArgs false
namespace Go.Proofs.Ytmijfhepagobdaa.Avm

/-- an element goes down past greater ones -/
def insG (x : Mem) : List Mem → List Mem → List Mem
  | [], B => x :: B
  | a :: rA, B => if Op.bytesLess x.name a.name = true then insG x rA (a :: B) else (a :: rA).reverse ++ x :: B
def isortG : List Mem → List Mem → List Mem
  | acc, [] => acc
  | acc, x :: r => isortG (insG x acc.reverse []) r
def isort : List Mem → List Mem
  | [] => []
  | x :: r => isortG [x] r

def shareP (l : List Mem) (by' name : Str) (r : Int) : List Mem × Int :=
  if rightP l = false ∨ nameOk name = false ∨ isRole r = false then ([], 2)
  else if ofP l by' < 3 then ([], 40)
  else if 0 ≤ atP l name then ([], 42)
  else if highP l by' [r] = true then ([], 40)
  else if 8 ≤ l.length then ([], 3)
  else (isort (l ++ [⟨name, r⟩]), 0)
/-- the role at a place -/
def roleAt (l : List Mem) (i : Int) : Int := ((l[i.toNat]?).map (·.role)).getD 0
def changeP (l : List Mem) (by' name : Str) (r : Int) : List Mem × Int :=
  if rightP l = false ∨ nameOk name = false ∨ isRole r = false then ([], 2)
  else if ofP l by' < 3 then ([], 40)
  else if atP l name < 0 then ([], 35)
  else if highP l by' [r, ofP l name] = true then ([], 40)
  else if ofP l name = 4 ∧ r < 4 ∧ ownersP l = 1 then ([], 46)
  else (l.set (atP l name).toNat ⟨name, r⟩, 0)
def revokeP (l : List Mem) (by' name : Str) : List Mem × Int :=
  if rightP l = false ∨ nameOk name = false then ([], 2)
  else if by' ≠ name ∧ ofP l by' < 3 then ([], 40)
  else if atP l name < 0 then ([], 35)
  else if by' ≠ name ∧ highP l by' [ofP l name] = true then ([], 40)
  else if ofP l name = 4 ∧ ownersP l = 1 then ([], 46)
  else (l.eraseIdx (atP l name).toNat, 0)

def long2 (l : List Mem) (n : Str) : Prop := long1 l ∧ n.length ≤ 9223372036854775807
def e_share : (List Mem) × Str × Str × Int → List AV := fun | (l, b, n, r) => [enc l, .str b, .str n, .int .i64 r]
def k_share : (List Mem) × Str × Str × Int → Prop := fun | (l, b, n, r) => long2 l n
def r_share : (List Mem) × Str × Str × Int → AV := fun | (l, b, n, r) => .tup [enc (shareP l b n r).1, .int .i64 (shareP l b n r).2]
noncomputable def p_share : List AV → Store → Option (AV × Store) := primG e_share (gd k_share r_share)
theorem i_share : Inj e_share := by
  rintro ⟨l1, b1, n1, r1⟩ ⟨l2, b2, n2, r2⟩ h
  simpa only [e_share, enc_inj, rec_inj, AV.str.injEq, AV.int.injEq, AV.bool.injEq, AV.agg.injEq, AV.ptr.injEq, AV.fn.injEq, List.cons.injEq, and_true, true_and, Prod.mk.injEq] using h
theorem c_share {E : Env} (h : E.prim 38 = some fun _ => p_share) (l : List Mem) (b : Str) (n : Str) (r : Int) (hk : long2 l n) {S : Store} {K : AV → Store → Prop} {d : Dm K} : SpD E 38 [enc l, .str b, .str n, .int .i64 r] S K d = K (.tup [enc (shareP l b n r).1, .int .i64 (shareP l b n r).2]) S := by
  have := callG h i_share (a := (l, b, n, r)) (S := S) (args := [enc l, .str b, .str n, .int .i64 r]) (K := K) (d := d) (by simp only [e_share, rdSL_cons, rdSL_nil, rdS_int, rdS_bool, rdS_str, enc_rdS, rdS_fn0, rdS_csl0, rdS_rec, rdSL_rec, rdS_agg, rdS_tup, Option.bind_some, Option.map_some]) hk
  simpa only [r_share, topL_cons, topL_nil, top_int, top_bool, top_str, top_csl, enc_top, top_agg, top_rec, top_fn, List.nil_append, killL_nil] using this
theorem c_share' {E : Env} (h : E.prim 38 = some fun _ => p_share) {S : Store} {x0 x1 x2 x3 : AV} {l : List Mem} {b : Str} {n : Str} {r : Int} (h0 : rdS S x0 = some (enc l)) (h1 : rdS S x1 = some (.str b)) (h2 : rdS S x2 = some (.str n)) (h3 : rdS S x3 = some (.int .i64 r)) (hk : long2 l n) {K : AV → Store → Prop} {d : Dm K} : SpD E 38 [x0, x1, x2, x3] S K d = K (.tup [enc (shareP l b n r).1, .int .i64 (shareP l b n r).2]) (killL (topIdsL [x0, x1, x2, x3]) S) :=
  callG h i_share (a := (l, b, n, r)) (by simp only [e_share, rdSL, h0, h1, h2, h3, Option.bind_some, Option.map_some]) hk
def e_change : (List Mem) × Str × Str × Int → List AV := fun | (l, b, n, r) => [enc l, .str b, .str n, .int .i64 r]
def k_change : (List Mem) × Str × Str × Int → Prop := fun | (l, b, n, r) => long2 l n
def r_change : (List Mem) × Str × Str × Int → AV := fun | (l, b, n, r) => .tup [enc (changeP l b n r).1, .int .i64 (changeP l b n r).2]
noncomputable def p_change : List AV → Store → Option (AV × Store) := primG e_change (gd k_change r_change)
theorem i_change : Inj e_change := by
  rintro ⟨l1, b1, n1, r1⟩ ⟨l2, b2, n2, r2⟩ h
  simpa only [e_change, enc_inj, rec_inj, AV.str.injEq, AV.int.injEq, AV.bool.injEq, AV.agg.injEq, AV.ptr.injEq, AV.fn.injEq, List.cons.injEq, and_true, true_and, Prod.mk.injEq] using h
theorem c_change {E : Env} (h : E.prim 39 = some fun _ => p_change) (l : List Mem) (b : Str) (n : Str) (r : Int) (hk : long2 l n) {S : Store} {K : AV → Store → Prop} {d : Dm K} : SpD E 39 [enc l, .str b, .str n, .int .i64 r] S K d = K (.tup [enc (changeP l b n r).1, .int .i64 (changeP l b n r).2]) S := by
  have := callG h i_change (a := (l, b, n, r)) (S := S) (args := [enc l, .str b, .str n, .int .i64 r]) (K := K) (d := d) (by simp only [e_change, rdSL_cons, rdSL_nil, rdS_int, rdS_bool, rdS_str, enc_rdS, rdS_fn0, rdS_csl0, rdS_rec, rdSL_rec, rdS_agg, rdS_tup, Option.bind_some, Option.map_some]) hk
  simpa only [r_change, topL_cons, topL_nil, top_int, top_bool, top_str, top_csl, enc_top, top_agg, top_rec, top_fn, List.nil_append, killL_nil] using this
theorem c_change' {E : Env} (h : E.prim 39 = some fun _ => p_change) {S : Store} {x0 x1 x2 x3 : AV} {l : List Mem} {b : Str} {n : Str} {r : Int} (h0 : rdS S x0 = some (enc l)) (h1 : rdS S x1 = some (.str b)) (h2 : rdS S x2 = some (.str n)) (h3 : rdS S x3 = some (.int .i64 r)) (hk : long2 l n) {K : AV → Store → Prop} {d : Dm K} : SpD E 39 [x0, x1, x2, x3] S K d = K (.tup [enc (changeP l b n r).1, .int .i64 (changeP l b n r).2]) (killL (topIdsL [x0, x1, x2, x3]) S) :=
  callG h i_change (a := (l, b, n, r)) (by simp only [e_change, rdSL, h0, h1, h2, h3, Option.bind_some, Option.map_some]) hk
def e_revoke : (List Mem) × Str × Str → List AV := fun | (l, b, n) => [enc l, .str b, .str n]
def k_revoke : (List Mem) × Str × Str → Prop := fun | (l, b, n) => long2 l n
def r_revoke : (List Mem) × Str × Str → AV := fun | (l, b, n) => .tup [enc (revokeP l b n).1, .int .i64 (revokeP l b n).2]
noncomputable def p_revoke : List AV → Store → Option (AV × Store) := primG e_revoke (gd k_revoke r_revoke)
theorem i_revoke : Inj e_revoke := by
  rintro ⟨l1, b1, n1⟩ ⟨l2, b2, n2⟩ h
  simpa only [e_revoke, enc_inj, rec_inj, AV.str.injEq, AV.int.injEq, AV.bool.injEq, AV.agg.injEq, AV.ptr.injEq, AV.fn.injEq, List.cons.injEq, and_true, true_and, Prod.mk.injEq] using h
theorem c_revoke {E : Env} (h : E.prim 36 = some fun _ => p_revoke) (l : List Mem) (b : Str) (n : Str) (hk : long2 l n) {S : Store} {K : AV → Store → Prop} {d : Dm K} : SpD E 36 [enc l, .str b, .str n] S K d = K (.tup [enc (revokeP l b n).1, .int .i64 (revokeP l b n).2]) S := by
  have := callG h i_revoke (a := (l, b, n)) (S := S) (args := [enc l, .str b, .str n]) (K := K) (d := d) (by simp only [e_revoke, rdSL_cons, rdSL_nil, rdS_int, rdS_bool, rdS_str, enc_rdS, rdS_fn0, rdS_csl0, rdS_rec, rdSL_rec, rdS_agg, rdS_tup, Option.bind_some, Option.map_some]) hk
  simpa only [r_revoke, topL_cons, topL_nil, top_int, top_bool, top_str, top_csl, enc_top, top_agg, top_rec, top_fn, List.nil_append, killL_nil] using this
theorem c_revoke' {E : Env} (h : E.prim 36 = some fun _ => p_revoke) {S : Store} {x0 x1 x2 : AV} {l : List Mem} {b : Str} {n : Str} (h0 : rdS S x0 = some (enc l)) (h1 : rdS S x1 = some (.str b)) (h2 : rdS S x2 = some (.str n)) (hk : long2 l n) {K : AV → Store → Prop} {d : Dm K} : SpD E 36 [x0, x1, x2] S K d = K (.tup [enc (revokeP l b n).1, .int .i64 (revokeP l b n).2]) (killL (topIdsL [x0, x1, x2]) S) :=
  callG h i_revoke (a := (l, b, n)) (by simp only [e_revoke, rdSL, h0, h1, h2, Option.bind_some, Option.map_some]) hk
/-- the clones of a list of members -/
noncomputable abbrev p_clone : List AV → Store → Option (AV × Store) := primO (fun l : List Mem => [enc l]) (ownRow 1000000)
end Go.Proofs.Ytmijfhepagobdaa.Avm
