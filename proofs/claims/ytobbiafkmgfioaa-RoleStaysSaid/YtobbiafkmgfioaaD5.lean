/- What is done to a list, and what stays. -/
import Derived.Test.YtobbiafkmgfioaaS12
set_option linter.unusedVariables false
set_option linter.unusedSimpArgs false
namespace Go.Proofs.Ytobbiafkmgfioaa.Avm

/-- what is done: its kind, by whom, of whom, with what role -/
structure Deed where
  kind : Int
  by' : Str
  name : Str
  role : Int
instance : Rec Deed where
  sz := 4
  c d := [.int .i64 d.kind, .str d.by', .str d.name, .int .i64 d.role]
  len _ := rfl
  pos := by decide
  inj a b h := by cases a; cases b; simp at h; simp [h]
  pure _ := rfl
theorem c_do (d : Deed) : Rec.c d = [.int .i64 d.kind, .str d.by', .str d.name, .int .i64 d.role] := rfl
@[go_sem] theorem z_do : Rec.sz Deed = 4 := rfl
def doP (l : List Mem) (d : Deed) : List Mem × Int := if d.kind = 1 then shareP l d.by' d.name d.role else if d.kind = 2 then changeP l d.by' d.name d.role else revokeP l d.by' d.name
/-- what is done well -/
structure Good (l nx : List Mem) (b n : Str) : Prop where
  right : rightP nx = true
  few : ¬ (ofP l b < 3 ∧ b ≠ n)
  high : ofP l b < 4 → (3 ≤ ofP l n ∨ 3 ≤ ofP nx n) → b = n ∧ ofP nx n = 0
  rest : ∀ m, m ∈ l → m.name ≠ n → ofP nx m.name = m.role
  step : ofP l n ≠ ofP nx n → stepP l nx b = (decide (ofP nx n = 0), 0)
  same : ofP l n = ofP nx n → (stepP l nx b).2 = 11

def e_roleStays : Str × (List Deed) → List AV := fun | (s, l) => [.str s, enc l]
def k_roleStays : Str × (List Deed) → Prop := fun | (s, l) => s.length ≤ 9223372036854775807 ∧ l.length ≤ 9223372036854775807
def r_roleStays : Str × (List Deed) → AV := fun | (s, l) => .bool true
noncomputable def p_roleStays : List AV → Store → Option (AV × Store) := primS e_roleStays (gd k_roleStays r_roleStays)
theorem i_roleStays : Inj e_roleStays := by
  rintro ⟨s1, l1⟩ ⟨s2, l2⟩ h
  simpa only [e_roleStays, enc_inj, rec_inj, AV.str.injEq, AV.int.injEq, AV.bool.injEq, AV.agg.injEq, AV.ptr.injEq, AV.fn.injEq, List.cons.injEq, and_true, true_and, Prod.mk.injEq] using h
theorem c_roleStays {E : Env} (h : E.prim 11 = some fun _ => p_roleStays) (s : Str) (l : List Deed) (hk : s.length ≤ 9223372036854775807 ∧ l.length ≤ 9223372036854775807) {S : Store} {K : AV → Store → Prop} {d : Dm K} : SpD E 11 [.str s, enc l] S K d = K (.bool true) S :=
  callS h i_roleStays (a := (s, l)) (by simp only [e_roleStays, rdSL_cons, rdSL_nil, rdS_int, rdS_bool, rdS_str, enc_rdS, rdS_fn0, rdS_csl0, rdS_rec, rdSL_rec, rdS_agg, rdS_tup, Option.bind_some, Option.map_some]) hk
theorem c_roleStays' {E : Env} (h : E.prim 11 = some fun _ => p_roleStays) {S : Store} {x0 x1 : AV} {s : Str} {l : List Deed} (h0 : rdS S x0 = some (.str s)) (h1 : rdS S x1 = some (enc l)) (hk : s.length ≤ 9223372036854775807 ∧ l.length ≤ 9223372036854775807) {K : AV → Store → Prop} {d : Dm K} : SpD E 11 [x0, x1] S K d = K (.bool true) S :=
  callS h i_roleStays (a := (s, l)) (by simp only [e_roleStays, rdSL, h0, h1, Option.bind_some, Option.map_some]) hk
end Go.Proofs.Ytobbiafkmgfioaa.Avm
