/- Specs: members taken out, shared, changed. -/
import Derived.Test.YtmijfhepagobdaaS3
set_option linter.unusedVariables false
set_option linter.unusedSimpArgs false
namespace Go.Proofs.Ytmijfhepagobdaa.Avm

theorem run_delete {E : Env} (hp : E.prim 51 = none) (hf : E.F 51 = some F51) (l : List Mem) (i : Nat) (hi : i < l.length) (hl : l.length ≤ 1000000) (id : Nat) (S : Store) (hS : S[id]? = some (.cells (cl l))) :
    Is E 51 [.sl id 0 l.length 2, .int .i64 i, .int .i64 ((i + 1 : Nat) : Int)] S (.sl id 0 (l.length - 1) 2) (S.set id (.cells (cl (l.eraseIdx i) ++ [.str [], .int .i64 0]))) := by
  have hlen := (List.getElem?_eq_some_iff.1 hS).1
  have hcl := cl_len l
  have hz : Rec.sz Mem = 2 := rfl
  rw [hz] at hcl
  refine Is.of (Sp.intro hp hf rfl ?_)
  have q1 := sl_sl3 (sz := 2) (id := id) (off := 0) (k1 := .i64) (k2 := .i64) (k3 := .i64) (show i ≤ i + 1 by omega) (show i + 1 ≤ l.length by omega) (Nat.le_refl l.length)
  have q2 : decide ((i : Int) = ((i + 1 : Nat) : Int)) = false := decide_eq_false (by omega)
  have q3 := sl_sl (sz := 2) (id := id) (off := 0) (n := l.length) (i := 0) (j := i) (lo := none) (hi := some (.int .i64 i)) rfl rfl (by omega) (by omega)
  have q4 := sl_sl (sz := 2) (id := id) (off := 0) (n := l.length) (i := i + 1) (j := l.length) (lo := some (.int .i64 ((i + 1 : Nat) : Int))) (hi := none) rfl rfl (by omega) (by omega)
  have e1 : (cl l).drop ((i + 1) * 2) = cl (l.drop (i + 1)) := cl_drop l (i + 1)
  have e2 : (cl l).take (i * 2) = cl (l.take i) := cl_take l i
  have e3 : (cl (l.drop (i + 1))).length = (l.length - (i + 1)) * 2 := by rw [cl_len, hz, List.length_drop]
  have er : l.take i ++ l.drop (i + 1) = l.eraseIdx i := (List.eraseIdx_eq_take_drop_succ ..).symm
  have happ : appA S 2 24 (.sl id 0 (i - 0) 2) (.sl id ((i + 1) * 2) (l.length - (i + 1)) 2) = some (.sl id 0 (l.length - 1) 2, S.set id (.cells (cl (l.eraseIdx i) ++ (cl l).drop ((l.length - 1) * 2)))) := by
    rw [appA_eq, el_sl hS (by omega), Option.bind_some]
    simp only [hS, if_true, Nat.zero_mul, Nat.add_zero, Nat.sub_zero, Nat.zero_add]
    rw [e1, e2, List.take_of_length_le (l := cl (l.drop (i + 1))) (by omega), show i + (l.length - (i + 1)) = l.length - 1 by omega, if_pos (by omega), ← cl_append, er]
  have hlast : ((cl l).drop ((l.length - 1) * 2)).length = 2 := by rw [List.length_drop]; omega
  have hel : (cl (l.eraseIdx i)).length = (l.length - 1) * 2 := by rw [cl_len, hz, List.length_eraseIdx, if_pos hi]
  have hg : ∀ o, (S.set id o)[id]? = some o := fun o => by rw [List.getElem?_set_self hlen]
  have q5 := slx_sl (S := S.set id (.cells (cl (l.eraseIdx i) ++ (cl l).drop ((l.length - 1) * 2)))) (sz := 2) (id := id) (off := 0) (n := l.length - 1) (i := l.length - 1) (j := l.length) (k1 := .i64) (k2 := .i64) (hg _) (by omega) (by rw [List.length_append]; omega)
  have hcr : clearA (S.set id (.cells (cl (l.eraseIdx i) ++ (cl l).drop ((l.length - 1) * 2)))) 2 [.str [], .int .i64 0] (.sl id ((l.length - 1) * 2) (l.length - (l.length - 1)) 2) = some (.undef, S.set id (.cells (cl (l.eraseIdx i) ++ [.str [], .int .i64 0]))) := by
    simp only [clearA, aop, hg, if_true, Nat.zero_add, show l.length - (l.length - 1) = 1 by omega, List.set_set]
    rw [if_pos ⟨trivial, rfl, by rw [List.length_append]; omega⟩]
    have hA : (cl (l.eraseIdx i) ++ (cl l).drop ((l.length - 1) * 2)).take ((l.length - 1) * 2) = cl (l.eraseIdx i) := by rw [List.take_append_of_le_length (by omega), List.take_of_length_le (by omega)]
    have hB : (cl (l.eraseIdx i) ++ (cl l).drop ((l.length - 1) * 2)).drop ((l.length - 1) * 2 + 1 * 2) = [] := List.drop_eq_nil_of_le (by rw [List.length_append]; omega)
    rw [hA, hB]; simp
  simp -dsimp only [go_sem, F51, q1, q2, q3, q4, happ, q5, hcr]
end Go.Proofs.Ytmijfhepagobdaa.Avm
