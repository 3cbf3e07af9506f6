/- Rows of records, read and written in place. -/
import Derived.Test.YtmijfhepagobdaaA26
set_option linter.unusedVariables false
set_option linter.unusedSimpArgs false
set_option linter.unusedSectionVars false
namespace Go.Proofs.Ytmijfhepagobdaa.Avm
section
variable {α : Type} [Rec α]
theorem cl_split {l : List α} {j : Nat} (h : j < l.length) : cl l = cl (l.take j) ++ (Rec.c l[j] ++ cl (l.drop (j + 1))) := by
  rw [← cl_cons, ← cl_append, ← List.drop_eq_getElem_cons h, List.take_append_drop]
theorem ldO_cl {l : List α} {n j off : Nat} (h : j < l.length) (hn : n = Rec.sz α) (ho : off = j * Rec.sz α) : ldO true n off (.cells (cl l)) = some (.agg (Rec.c l[j])) := by
  subst hn; subst ho
  have hl := cl_len l
  have h2 : (j + 1) * Rec.sz α ≤ l.length * Rec.sz α := Nat.mul_le_mul_right _ h
  rw [Nat.add_mul, Nat.one_mul] at h2
  rw [ldO_n _ _ _ (by omega), cl_at h, List.take_append_of_le_length (by rw [Rec.len]; omega), List.take_of_length_le (by rw [Rec.len]; omega)]
theorem ldO_cl1 {l : List α} {n j off k : Nat} {v : AV} (h : j < l.length) (hk : (Rec.c l[j])[k]? = some v) (ho : off = j * Rec.sz α + k) : ldO false n off (.cells (cl l)) = some v := by
  subst ho
  rw [ldO_1, cl_split h, List.getElem?_append_right (by rw [cl_len, List.length_take]; have := Nat.mul_le_mul_right (Rec.sz α) (Nat.min_le_left j l.length); omega)]
  rw [cl_len, List.length_take, Nat.min_eq_left (by omega)]
  have hk' := (List.getElem?_eq_some_iff.1 hk).1
  rw [show j * Rec.sz α + k - j * Rec.sz α = k by omega, List.getElem?_append_left hk']; exact hk
theorem stO_cl {S : Store} {id : Nat} {l : List α} {n j off : Nat} {a : α} (h : j < l.length) (hn : n = Rec.sz α) (ho : off = j * Rec.sz α) :
    stO S id n off (.agg (Rec.c a)) (.cells (cl l)) = some (.undef, S.set id (.cells (cl (l.set j a)))) := by
  subst hn; subst ho
  have hl := cl_len l
  have h2 : (j + 1) * Rec.sz α ≤ l.length * Rec.sz α := Nat.mul_le_mul_right _ h
  rw [Nat.add_mul, Nat.one_mul] at h2
  rw [stO_c _ _ _ _ _ _ (by rw [c_agg, Rec.len]) (by omega)]
  rw [cl_take, c_agg, show j * Rec.sz α + Rec.sz α = (j + 1) * Rec.sz α by rw [Nat.add_mul, Nat.one_mul], cl_drop, List.append_assoc, ← cl_cons, ← cl_append]
  rw [show l.take j ++ a :: l.drop (j + 1) = l.set j a from (List.set_eq_take_append_cons_drop .. ▸ by simp [h])]
/-- one cell of a record -/
theorem stO_cl1 {S : Store} {id : Nat} {l : List α} {j off k : Nat} {a : α} {v : AV} (h : j < l.length) (hv : v.cells = [v]) (hk : k < Rec.sz α) (ho : off = j * Rec.sz α + k) (ha : Rec.c a = (Rec.c l[j]).set k v) :
    stO S id 1 off v (.cells (cl l)) = some (.undef, S.set id (.cells (cl (l.set j a)))) := by
  subst ho
  have hl := cl_len l
  have h2 : (j + 1) * Rec.sz α ≤ l.length * Rec.sz α := Nat.mul_le_mul_right _ h
  rw [Nat.add_mul, Nat.one_mul] at h2
  rw [stO_c _ _ _ _ _ _ (by rw [hv]; rfl) (by omega), hv]
  congr 4
  have e : l.set j a = l.take j ++ a :: l.drop (j + 1) := by rw [List.set_eq_take_append_cons_drop]; simp [h]
  rw [e, cl_append, cl_cons, ha, cl_split h]
  have l1 : (cl (l.take j)).length = j * Rec.sz α := by rw [cl_len, List.length_take, Nat.min_eq_left (by omega)]
  have l2 : (Rec.c l[j]).length = Rec.sz α := Rec.len _
  have e2 : (Rec.c l[j]).set k v = (Rec.c l[j]).take k ++ v :: (Rec.c l[j]).drop (k + 1) := by rw [List.set_eq_take_append_cons_drop]; simp [l2, hk]
  have t1 : (cl (l.take j) ++ (Rec.c l[j] ++ cl (l.drop (j + 1)))).take (j * Rec.sz α + k) = cl (l.take j) ++ (Rec.c l[j]).take k := by
    rw [List.take_append, List.take_of_length_le (by omega), l1, show j * Rec.sz α + k - j * Rec.sz α = k by omega, List.take_append_of_le_length (by omega)]
  have t2 : (cl (l.take j) ++ (Rec.c l[j] ++ cl (l.drop (j + 1)))).drop (j * Rec.sz α + k + 1) = (Rec.c l[j]).drop (k + 1) ++ cl (l.drop (j + 1)) := by
    rw [List.drop_append, List.drop_eq_nil_of_le (by omega), l1, show j * Rec.sz α + k + 1 - j * Rec.sz α = k + 1 by omega, List.drop_append_of_le_length (by omega), List.nil_append]
  rw [t1, t2, e2]
  simp
theorem ia_slE {sz n id i : Nat} (k : IntKind) (h : i < n) : iaddrA sz (.sl id 0 n sz) (.int k i) = some (.ptr id (i * sz)) := by rw [ia_sl k h, Nat.zero_add]
end
theorem sl_sl {sz id off n i j : Nat} {lo hi : Option AV} (h1 : optI 0 lo = some (i : Int)) (h2 : optI n hi = some (j : Int)) (hij : i ≤ j) (hj : j ≤ n) : sliceA sz (.sl id off n sz) lo hi none = some (.sl id (off + i * sz) (j - i) sz) := by
  simp only [sliceA, h1, h2, Option.bind_some, show optI (n : Int) none = some (n : Int) from rfl, Option.isNone_none, true_or, and_true, true_and, if_true, Int.toNat_natCast]
  rw [if_pos (by omega)]
theorem sl_sl3 {sz id off n i j m : Nat} {k1 k2 k3 : IntKind} (hij : i ≤ j) (hj : j ≤ m) (hm : m ≤ n) : sliceA sz (.sl id off n sz) (some (.int k1 i)) (some (.int k2 j)) (some (.int k3 m)) = some (.slc id (off + i * sz) (j - i) (m - i) sz) := by
  simp only [sliceA, optI, Option.bind_some, Option.isNone_some, Bool.false_eq_true, false_or, Option.isSome_some, and_true, true_and, if_false, Int.toNat_natCast]
  rw [if_pos (by omega)]
theorem slx_sl {S : Store} {sz id off n i j : Nat} {k1 k2 : IntKind} {cs : List AV} (hS : S[id]? = some (.cells cs)) (hij : i ≤ j) (hj : off + j * sz ≤ cs.length) : slicexA S sz (.sl id off n sz) (.int k1 i) (.int k2 j) = some (.sl id (off + i * sz) (j - i) sz) := by
  simp only [slicexA, hS, Int.toNat_natCast, true_and]
  rw [if_pos ⟨by omega, by omega, hj⟩]
theorem el_sl {S : Store} {sz id off n : Nat} {cs : List AV} (hS : S[id]? = some (.cells cs)) (h : off + n * sz ≤ cs.length) : elems S sz (.sl id off n sz) = some ((cs.drop off).take (n * sz), n) := by
  simp only [elems, hS, true_and]; rw [if_pos h]
theorem optI_n (d : Int) : optI d none = some d := rfl
theorem optI_s (d : Int) (k : IntKind) (n : Int) : optI d (some (.int k n)) = some n := rfl
attribute [go_sem] List.set_set
end Go.Proofs.Ytmijfhepagobdaa.Avm
