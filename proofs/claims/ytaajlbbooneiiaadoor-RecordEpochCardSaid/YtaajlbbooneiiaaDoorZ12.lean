/- Plain laws of the codec: sizes; what is decoded. Specs: the document's codec. Specs: the document's codec: values written, kinds. Specs: the document's codec: values read. Specs: which manifest follows which. Specs: how manifests begin; the law of following. -/
import Derived.Test.YtaajlbbooneiiaaDoorZ11
import Derived.Test.YtaajlbbooneiiaaDoorZ10
set_option linter.unusedVariables false
set_option linter.unusedSimpArgs false
set_option maxRecDepth 10000
namespace Go.Proofs.YtaajlbbooneiiaaDoor.Avm

theorem put_len3 {n : Nat} (h : n ≤ 1048576) : (putP (n : Int) 3).1.length = 3 := by
  have := put_eq (m := n) (s := 3) (by decide) (by decide) (by omega) (by have := p3; omega)
  rw [show ((3 : Nat) : Int) = 3 from rfl] at this
  rw [this]; simp [leN_len]
theorem put_len2 {n : Nat} (h : n ≤ 4096) : (putP (n : Int) 2).1.length = 2 := by
  have := put_eq (m := n) (s := 2) (by decide) (by decide) (by omega) (by have := p2; omega)
  rw [show ((2 : Nat) : Int) = 2 from rfl] at this
  rw [this]; simp [leN_len]
mutual
theorem meas_inv : ∀ (v : Val) (room : Int) (deep : Nat), (measA v room deep).2 = true → pureA v = true ∧ deepA v ≤ deep ∧ (measA v room deep).1 = ((bytesA v).length : Nat)
  | .mk k n b l, room, deep, h => by
    unfold measA at h ⊢
    split at h
    · cases h
    · rename_i h0
      rw [if_neg h0]
      simp only [Bool.or_eq_true, Bool.not_eq_true', decide_eq_true_eq, not_or, Bool.not_eq_false] at h0
      obtain ⟨hp, hr, hd⟩ := h0
      split at h
      · rename_i hk
        subst hk
        have := (pure1_1 hp rfl).2.2
        simp only [Val.list] at this
        have hl := List.eq_nil_of_length_eq_zero this
        subst hl
        rw [if_pos rfl, bytesA_1]
        refine ⟨by simp [pureA, hp, pureAL], by simp [deepA], ?_⟩
        simp only [List.length_cons]; omega
      · rename_i hk
        rw [if_neg hk]
        split at h
        · rename_i hk2
          subst hk2
          obtain ⟨q1, q2, q3⟩ := pure1_2 hp rfl
          simp only [Val.list, Val.bytes] at q2 q3
          have hl := List.eq_nil_of_length_eq_zero q3
          subst hl
          rw [if_pos rfl, bytesA_2]
          refine ⟨by simp [pureA, hp, pureAL], by simp [deepA], ?_⟩
          simp only [List.length_cons, List.length_append, put_len3 q2]; omega
        · rename_i hk2
          rw [if_neg hk2]
          split at h
          · cases h
          · rename_i hd0
            rw [if_neg hd0]
            obtain ⟨q0, q1, q2, q3⟩ := pure1_3 hp hk hk2
            simp only [Val.kind, Val.list] at q0 q3
            obtain ⟨d, rfl⟩ : ∃ d, deep = d + 1 := ⟨deep - 1, by omega⟩
            have e : ((d + 1 : Nat) : Int) - 1 = (d : Int) := by omega
            rw [e] at h ⊢
            obtain ⟨m1, m2, m3⟩ := measL_inv l room d 3 h
            rw [bytesA_3 _ _ _ hk hk2]
            refine ⟨by simp [pureA, hp, m1], by simp [deepA, q0]; exact m2, ?_⟩
            rw [m3]
            simp only [List.length_cons, List.length_append, put_len2 q3]; omega
theorem measL_inv : ∀ (l : List Val) (room : Int) (deep : Nat) (acc : Int), (measAL l room deep acc).2 = true → pureAL l = true ∧ deepAL l ≤ deep ∧ (measAL l room deep acc).1 = acc + ((bytesAL l).length : Nat)
  | [], room, deep, acc, h => by simp [measAL, pureAL, deepAL, bytesAL]
  | v :: l, room, deep, acc, h => by
    rw [measAL_cons] at h ⊢
    split at h
    · rename_i hv
      rw [if_pos hv]
      obtain ⟨h1, h2, h3⟩ := meas_inv v (room - acc) deep hv
      obtain ⟨k1, k2, k3⟩ := measL_inv l room deep _ h
      refine ⟨by simp [pureAL, h1, k1], by simp only [deepAL]; omega, ?_⟩
      rw [k3, h3, bytesAL, List.length_append]; omega
    · cases h
end
mutual
theorem meas_ok : ∀ (v : Val) (room : Int) (deep : Nat), pureA v = true → deepA v ≤ deep → ((bytesA v).length : Int) ≤ room → (measA v room deep).2 = true
  | .mk k n b l, room, deep, hp, hd, hr => by
    have hpp : pure1 (.mk k n b l) = true ∧ pureAL l = true := by simpa [pureA] using hp
    unfold measA
    rw [if_neg (by simp only [Bool.or_eq_true, Bool.not_eq_true', decide_eq_true_eq, not_or, Bool.not_eq_false]; exact ⟨hpp.1, by omega, by omega⟩)]
    split
    · rfl
    · rename_i hk
      split
      · rfl
      · rename_i hk2
        obtain ⟨q0, q1, q2, q3⟩ := pure1_3 hpp.1 hk hk2
        simp only [Val.kind, Val.list] at q0 q3
        have hdd : deepAL l + 1 ≤ deep := by simpa [deepA, q0] using hd
        rw [if_neg (by omega)]
        obtain ⟨d, rfl⟩ : ∃ d, deep = d + 1 := ⟨deep - 1, by omega⟩
        have e : ((d + 1 : Nat) : Int) - 1 = (d : Int) := by omega
        rw [e]
        rw [bytesA_3 _ _ _ hk hk2] at hr
        simp only [List.length_cons, List.length_append, put_len2 q3] at hr
        exact measL_ok l room d 3 hpp.2 (by omega) (by omega)
theorem measL_ok : ∀ (l : List Val) (room : Int) (deep : Nat) (acc : Int), pureAL l = true → deepAL l ≤ deep → acc + ((bytesAL l).length : Int) ≤ room → (measAL l room deep acc).2 = true
  | [], room, deep, acc, hp, hd, hr => by simp [measAL]
  | v :: l, room, deep, acc, hp, hd, hr => by
    simp only [pureAL, Bool.and_eq_true] at hp
    simp only [deepAL] at hd
    simp only [bytesAL, List.length_append] at hr
    have hv := meas_ok v (room - acc) deep hp.1 (by omega) (by omega)
    have hi := meas_inv v (room - acc) deep hv
    rw [measAL_cons, if_pos hv, hi.2.2]
    exact measL_ok l room deep _ hp.2 (by omega) (by omega)
end
def rightV (v : Val) : Prop := pureA v = true ∧ deepA v ≤ 16 ∧ (bytesA v).length ≤ 1048576
theorem size_iff (v : Val) : (sizeP v).2 = true ↔ rightV v := by
  unfold sizeP rightV
  constructor
  · intro h
    split at h
    · cases h
    · rename_i h0
      simp only [Bool.or_eq_true, Bool.not_eq_true', decide_eq_true_eq, not_or, Bool.not_eq_false] at h0
      obtain ⟨k1, k2, k3⟩ := meas_inv v 1048576 16 h0.1
      exact ⟨k1, k2, by rw [show ((16 : Nat) : Int) = 16 from rfl] at k3; rw [k3] at h0; omega⟩
  · rintro ⟨h1, h2, h3⟩
    have hm := meas_ok v 1048576 16 h1 h2 (by omega)
    obtain ⟨_, _, k3⟩ := meas_inv v 1048576 16 hm
    rw [show ((16 : Nat) : Int) = 16 from rfl] at hm k3
    rw [if_neg]
    simp only [Bool.or_eq_true, Bool.not_eq_true', decide_eq_true_eq, not_or, Bool.not_eq_false]
    exact ⟨hm, by rw [k3]; omega⟩
theorem encode_ok {v : Val} (h : rightV v) : encodeP v = (bytesA v, 0) := if_pos ((size_iff v).2 h)
theorem encode_no {v : Val} (h : ¬ rightV v) : encodeP v = ([], 2) := if_neg fun k => h ((size_iff v).1 k)
theorem decode_put {v : Val} (h : rightV v) : decodeP (bytesA v) = (v, 0) := by
  have := value_put v h.1 16 h.2.1 []
  rw [List.append_nil] at this
  unfold decodeP
  rw [if_neg (by have := h.2.2; omega)]
  simp only [this]
  rw [if_neg (by simp)]
theorem decode_inv {b : List UInt8} {v : Val} (h : decodeP b = (v, 0)) : rightV v ∧ b = bytesA v := by
  by_cases hl : 1048576 < b.length
  · unfold decodeP at h; rw [if_pos hl] at h; simp at h
  · obtain ⟨r, hr⟩ : ∃ r, valueP 16 (b, 0) = r := ⟨_, rfl⟩
    have hd : decodeP b = (if (if r.2.2 = 0 ∧ 0 < r.2.1.length then 12 else r.2.2) ≠ 0 then (nul, if r.2.2 = 0 ∧ 0 < r.2.1.length then 12 else r.2.2) else (r.1, 0)) := by
      unfold decodeP; rw [if_neg hl]; simp only [hr]
    rw [hd] at h
    by_cases he : (if r.2.2 = 0 ∧ 0 < r.2.1.length then (12 : Int) else r.2.2) ≠ 0
    · rw [if_pos he] at h
      simp only [Prod.mk.injEq] at h
      exact absurd h.2 he
    · rw [if_neg he] at h
      simp only [ne_eq, Decidable.not_not] at he
      simp only [Prod.mk.injEq, and_true] at h
      have h0 : r.2.2 = 0 := by
        by_cases hc : r.2.2 = 0 ∧ 0 < r.2.1.length
        · exact hc.1
        · rwa [if_neg hc] at he
      have h1 : r.2.1 = [] := by
        by_cases hc : r.2.2 = 0 ∧ 0 < r.2.1.length
        · rw [if_pos hc] at he; cases he
        · exact List.eq_nil_of_length_eq_zero (by simp only [h0, true_and] at hc; omega)
      obtain ⟨k1, k2, k3⟩ := value_inv 16 (b, 0) r.1 r.2 rfl (by simp only; omega) (by rw [hr]) h0
      simp only [h1, List.append_nil] at k1
      subst h
      exact ⟨⟨k2, k3, by rw [← k1]; omega⟩, k1⟩
theorem bytesA_inj {v w : Val} (hv : rightV v) (hw : rightV w) (h : bytesA v = bytesA w) : v = w := by
  have h1 := decode_put hv
  have h2 := decode_put hw
  rw [h, h2] at h1
  simpa using h1.symm
/-- what is left to read is the end of what there was -/
theorem take_suffix (s : Rdr) (n : Nat) : ∃ k, (takeP s n).2.1 = s.1.drop k := by
  unfold takeP; split
  · split
    · exact ⟨0, rfl⟩
    · exact ⟨n, rfl⟩
  · exact ⟨0, rfl⟩
theorem suff_trans {a b c : List UInt8} (h1 : ∃ k, b = a.drop k) (h2 : ∃ k, c = b.drop k) : ∃ k, c = a.drop k := by
  obtain ⟨k, rfl⟩ := h1
  obtain ⟨j, rfl⟩ := h2
  exact ⟨k + j, by rw [List.drop_drop]⟩
theorem fail_fst (s : Rdr) : (failP s).1 = s.1 := by unfold failP; split <;> rfl
theorem number_suffix (s : Rdr) : ∃ k, (numberP s).2.1 = s.1.drop k := by
  obtain ⟨s1, hs1⟩ : ∃ s1, countP s 1 = s1 := ⟨_, rfl⟩
  obtain ⟨s2, hs2⟩ : ∃ s2, (if 8 < s1.1 then failP s1.2 else s1.2) = s2 := ⟨_, rfl⟩
  obtain ⟨s3, hs3⟩ : ∃ s3, takeP s2 s1.1 = s3 := ⟨_, rfl⟩
  have e : numberP s = (if s3.1.length = 0 then (.mk 1 0 [] [], s3.2) else (.mk 1 (getP s3.1).1 [] [], if (getP s3.1).2 ≠ 0 ∨ s3.1.headD 0 = 0 then failP s3.2 else s3.2)) := by
    subst hs3; subst hs2; subst hs1; rfl
  have h1 : ∃ k, s1.2.1 = s.1.drop k := by rw [← hs1]; exact take_suffix s 1
  have h2 : ∃ k, s2.1 = s1.2.1.drop k := ⟨0, by
    rw [← hs2]; split
    · rw [fail_fst]; rfl
    · rfl⟩
  have h3 : ∃ k, s3.2.1 = s.1.drop k := suff_trans h1 (suff_trans h2 (by rw [← hs3]; exact take_suffix s2 _))
  rw [e]
  split
  · exact h3
  · simp only
    split
    · rw [fail_fst]; exact h3
    · exact h3
theorem items_suffix {f : Rdr → Val × Rdr} (hf : ∀ s, ∃ k, (f s).2.1 = s.1.drop k) : ∀ (n : Nat) (acc : List Val) (s : Rdr), ∃ k, (itemsP f n acc s).2.1 = s.1.drop k
  | 0, acc, s => ⟨0, rfl⟩
  | n + 1, acc, s => by
    unfold itemsP; split
    · exact suff_trans (hf s) (items_suffix hf n _ _)
    · exact ⟨0, rfl⟩
theorem value_suffix : ∀ (d : Nat) (s : Rdr), ∃ k, (valueP d s).2.1 = s.1.drop k := by
  intro d
  induction d with
  | zero =>
    intro s
    unfold valueP
    simp only
    split
    · exact take_suffix s 1
    · split
      · exact suff_trans (take_suffix s 1) (number_suffix _)
      · split
        · exact suff_trans (take_suffix s 1) (suff_trans (take_suffix _ 3) (take_suffix _ _))
        · split
          · rw [fail_fst]; exact suff_trans (take_suffix s 1) (take_suffix _ 2)
          · rw [fail_fst]; exact take_suffix s 1
  | succ d ih =>
    intro s
    unfold valueP
    simp only
    split
    · exact take_suffix s 1
    · split
      · exact suff_trans (take_suffix s 1) (number_suffix _)
      · split
        · exact suff_trans (take_suffix s 1) (suff_trans (take_suffix _ 3) (take_suffix _ _))
        · split
          · refine suff_trans (take_suffix s 1) (suff_trans (take_suffix _ 2) ?_)
            obtain ⟨k, hk⟩ := items_suffix ih (countP (takeP s 1).2 2).1 [] (if 4096 < (countP (takeP s 1).2 2).1 then failP (countP (takeP s 1).2 2).2 else (countP (takeP s 1).2 2).2)
            refine ⟨k, hk.trans ?_⟩
            split
            · rw [fail_fst]; rfl
            · rfl
          · rw [fail_fst]; exact take_suffix s 1
end Go.Proofs.YtaajlbbooneiiaaDoor.Avm
set_option linter.unusedVariables false
set_option linter.unusedSimpArgs false
set_option maxRecDepth 10000
namespace Go.Proofs.YtaajlbbooneiiaaDoor.Avm

def readRP (b : List UInt8) (at' n : Nat) : Val × Nat × Int :=
  let r := valueP n (b.drop at', 0)
  if r.2.2 = 0 then (r.1, b.length - r.2.1.length, 0) else (nul, 0, r.2.2)
def e_lowR : Int × Int → List AV := fun | (n, k) => [.int .i64 n, .int .i64 k]
def k_lowR : Int × Int → Prop := fun | (n, k) => True
def r_lowR : Int × Int → AV := fun | (n, k) => .tup [enc (lowP n k).1, .int .i64 (lowP n k).2]
noncomputable def p_lowR : List AV → Store → Option (AV × Store) := primG e_lowR (gd k_lowR r_lowR)
theorem i_lowR : Inj e_lowR := by
  rintro ⟨n1, k1⟩ ⟨n2, k2⟩ h
  simpa only [e_lowR, enc_inj, rec_inj, AV.str.injEq, AV.int.injEq, AV.bool.injEq, AV.agg.injEq, AV.ptr.injEq, AV.fn.injEq, List.cons.injEq, and_true, true_and, Prod.mk.injEq] using h
theorem c_lowR {E : Env} (h : E.prim 79 = some fun _ => p_lowR) (n : Int) (k : Int) {S : Store} {K : AV → Store → Prop} {d : Dm K} : SpD E 79 [.int .i64 n, .int .i64 k] S K d = K (.tup [enc (lowP n k).1, .int .i64 (lowP n k).2]) S := by
  have := callG h i_lowR (a := (n, k)) (S := S) (args := [.int .i64 n, .int .i64 k]) (K := K) (d := d) (by simp only [e_lowR, rdSL_cons, rdSL_nil, rdS_int, rdS_bool, rdS_str, enc_rdS, rdS_fn0, rdS_csl0, rdS_rec, rdSL_rec, rdS_agg, rdS_tup, Option.bind_some, Option.map_some]) trivial
  simpa only [r_lowR, topL_cons, topL_nil, top_int, top_bool, top_str, top_csl, enc_top, top_agg, top_rec, top_fn, List.nil_append, killL_nil] using this
theorem c_lowR' {E : Env} (h : E.prim 79 = some fun _ => p_lowR) {S : Store} {x0 x1 : AV} {n : Int} {k : Int} (h0 : rdS S x0 = some (.int .i64 n)) (h1 : rdS S x1 = some (.int .i64 k)) {K : AV → Store → Prop} {d : Dm K} : SpD E 79 [x0, x1] S K d = K (.tup [enc (lowP n k).1, .int .i64 (lowP n k).2]) (killL (topIdsL [x0, x1]) S) :=
  callG h i_lowR (a := (n, k)) (by simp only [e_lowR, rdSL, h0, h1, Option.bind_some, Option.map_some]) trivial
def e_turnedR : List UInt8 → List AV := fun b => [enc b]
def k_turnedR : List UInt8 → Prop := fun b => b.length ≤ 1000000
def r_turnedR : List UInt8 → AV := fun b => enc b.reverse
noncomputable def p_turnedR : List AV → Store → Option (AV × Store) := primG e_turnedR (gd k_turnedR r_turnedR)
theorem i_turnedR : Inj e_turnedR := by
  intro b1 b2 h
  simpa only [e_turnedR, enc_inj, rec_inj, AV.str.injEq, AV.int.injEq, AV.bool.injEq, AV.agg.injEq, AV.ptr.injEq, AV.fn.injEq, List.cons.injEq, and_true, true_and, Prod.mk.injEq] using h
theorem c_turnedR {E : Env} (h : E.prim 80 = some fun _ => p_turnedR) (b : List UInt8) (hk : b.length ≤ 1000000) {S : Store} {K : AV → Store → Prop} {d : Dm K} : SpD E 80 [enc b] S K d = K (enc b.reverse) S := by
  have := callG h i_turnedR (a := b) (S := S) (args := [enc b]) (K := K) (d := d) (by simp only [e_turnedR, rdSL_cons, rdSL_nil, rdS_int, rdS_bool, rdS_str, enc_rdS, rdS_fn0, rdS_csl0, rdS_rec, rdSL_rec, rdS_agg, rdS_tup, Option.bind_some, Option.map_some]) hk
  simpa only [r_turnedR, topL_cons, topL_nil, top_int, top_bool, top_str, top_csl, enc_top, top_agg, top_rec, top_fn, List.nil_append, killL_nil] using this
theorem c_turnedR' {E : Env} (h : E.prim 80 = some fun _ => p_turnedR) {S : Store} {x0 : AV} {b : List UInt8} (h0 : rdS S x0 = some (enc b)) (hk : b.length ≤ 1000000) {K : AV → Store → Prop} {d : Dm K} : SpD E 80 [x0] S K d = K (enc b.reverse) (killL (topIdsL [x0]) S) :=
  callG h i_turnedR (a := b) (by simp only [e_turnedR, rdSL, h0, Option.bind_some, Option.map_some]) hk
def e_putR : Int × Int → List AV := fun | (n, k) => [.int .i64 n, .int .i64 k]
def k_putR : Int × Int → Prop := fun | (n, k) => True
def r_putR : Int × Int → AV := fun | (n, k) => .tup [enc (putP n k).1, .int .i64 (putP n k).2]
noncomputable def p_putR : List AV → Store → Option (AV × Store) := primG e_putR (gd k_putR r_putR)
theorem i_putR : Inj e_putR := by
  rintro ⟨n1, k1⟩ ⟨n2, k2⟩ h
  simpa only [e_putR, enc_inj, rec_inj, AV.str.injEq, AV.int.injEq, AV.bool.injEq, AV.agg.injEq, AV.ptr.injEq, AV.fn.injEq, List.cons.injEq, and_true, true_and, Prod.mk.injEq] using h
theorem c_putR {E : Env} (h : E.prim 65 = some fun _ => p_putR) (n : Int) (k : Int) {S : Store} {K : AV → Store → Prop} {d : Dm K} : SpD E 65 [.int .i64 n, .int .i64 k] S K d = K (.tup [enc (putP n k).1, .int .i64 (putP n k).2]) S := by
  have := callG h i_putR (a := (n, k)) (S := S) (args := [.int .i64 n, .int .i64 k]) (K := K) (d := d) (by simp only [e_putR, rdSL_cons, rdSL_nil, rdS_int, rdS_bool, rdS_str, enc_rdS, rdS_fn0, rdS_csl0, rdS_rec, rdSL_rec, rdS_agg, rdS_tup, Option.bind_some, Option.map_some]) trivial
  simpa only [r_putR, topL_cons, topL_nil, top_int, top_bool, top_str, top_csl, enc_top, top_agg, top_rec, top_fn, List.nil_append, killL_nil] using this
theorem c_putR' {E : Env} (h : E.prim 65 = some fun _ => p_putR) {S : Store} {x0 x1 : AV} {n : Int} {k : Int} (h0 : rdS S x0 = some (.int .i64 n)) (h1 : rdS S x1 = some (.int .i64 k)) {K : AV → Store → Prop} {d : Dm K} : SpD E 65 [x0, x1] S K d = K (.tup [enc (putP n k).1, .int .i64 (putP n k).2]) (killL (topIdsL [x0, x1]) S) :=
  callG h i_putR (a := (n, k)) (by simp only [e_putR, rdSL, h0, h1, Option.bind_some, Option.map_some]) trivial
def e_getR : List UInt8 → List AV := fun b => [enc b]
def k_getR : List UInt8 → Prop := fun b => True
def r_getR : List UInt8 → AV := fun b => .tup [.int .i64 (getP b).1, .int .i64 (getP b).2]
noncomputable def p_getR : List AV → Store → Option (AV × Store) := primS e_getR (gd k_getR r_getR)
theorem i_getR : Inj e_getR := by
  intro b1 b2 h
  simpa only [e_getR, enc_inj, rec_inj, AV.str.injEq, AV.int.injEq, AV.bool.injEq, AV.agg.injEq, AV.ptr.injEq, AV.fn.injEq, List.cons.injEq, and_true, true_and, Prod.mk.injEq] using h
theorem c_getR {E : Env} (h : E.prim 85 = some fun _ => p_getR) (b : List UInt8) {S : Store} {K : AV → Store → Prop} {d : Dm K} : SpD E 85 [enc b] S K d = K (.tup [.int .i64 (getP b).1, .int .i64 (getP b).2]) S :=
  callS h i_getR (a := b) (by simp only [e_getR, rdSL_cons, rdSL_nil, rdS_int, rdS_bool, rdS_str, enc_rdS, rdS_fn0, rdS_csl0, rdS_rec, rdSL_rec, rdS_agg, rdS_tup, Option.bind_some, Option.map_some]) trivial
theorem c_getR' {E : Env} (h : E.prim 85 = some fun _ => p_getR) {S : Store} {x0 : AV} {b : List UInt8} (h0 : rdS S x0 = some (enc b)) {K : AV → Store → Prop} {d : Dm K} : SpD E 85 [x0] S K d = K (.tup [.int .i64 (getP b).1, .int .i64 (getP b).2]) S :=
  callS h i_getR (a := b) (by simp only [e_getR, rdSL, h0, Option.bind_some, Option.map_some]) trivial
def e_bytesR : Val → List AV := fun v => [.agg (valL v)]
def k_bytesR (dp : Nat) : Val → Prop := fun v => pureA v = true ∧ deepA v < dp ∧ (bytesA v).length ≤ 1000000000
def r_bytesR : Val → AV := fun v => enc (bytesA v)
noncomputable def p_bytesR (dp : Nat) : List AV → Store → Option (AV × Store) := primG e_bytesR (gd (k_bytesR dp) r_bytesR)
theorem i_bytesR : Inj e_bytesR := by
  intro v1 v2 h
  simpa only [e_bytesR, enc_inj, rec_inj, AV.str.injEq, AV.int.injEq, AV.bool.injEq, AV.agg.injEq, AV.ptr.injEq, AV.fn.injEq, List.cons.injEq, and_true, true_and, Prod.mk.injEq, val_inj] using h
theorem c_bytesR {E : Env} {dp : Nat} (h : E.prim 46 = some fun _ => p_bytesR dp) (v : Val) (hk : pureA v = true ∧ deepA v < dp ∧ (bytesA v).length ≤ 1000000000) {S : Store} {K : AV → Store → Prop} {d : Dm K} : SpD E 46 [.agg (valL v)] S K d = K (enc (bytesA v)) S := by
  have := callG h i_bytesR (a := v) (S := S) (args := [.agg (valL v)]) (K := K) (d := d) (by simp only [e_bytesR, rdSL_cons, rdSL_nil, rdS_int, rdS_bool, rdS_str, enc_rdS, rdS_fn0, rdS_csl0, rdS_rec, rdSL_rec, rdS_agg, rdS_tup, Option.bind_some, Option.map_some]) hk
  simpa only [r_bytesR, topL_cons, topL_nil, top_int, top_bool, top_str, top_csl, enc_top, top_agg, top_rec, top_fn, List.nil_append, killL_nil] using this
theorem c_bytesR' {E : Env} {dp : Nat} (h : E.prim 46 = some fun _ => p_bytesR dp) {S : Store} {x0 : AV} {v : Val} (h0 : rdS S x0 = some (.agg (valL v))) (hk : pureA v = true ∧ deepA v < dp ∧ (bytesA v).length ≤ 1000000000) {K : AV → Store → Prop} {d : Dm K} : SpD E 46 [x0] S K d = K (enc (bytesA v)) (killL (topIdsL [x0]) S) :=
  callG h i_bytesR (a := v) (by simp only [e_bytesR, rdSL, h0, Option.bind_some, Option.map_some]) hk
def e_readR : (List UInt8) × Nat × Nat → List AV := fun | (b, a, n) => [enc b, .int .i64 a, .int .i64 n]
def k_readR (dp : Nat) : (List UInt8) × Nat × Nat → Prop := fun | (b, a, n) => n < dp ∧ n ≤ 16 ∧ a ≤ b.length ∧ b.length ≤ 1048576
def r_readR : (List UInt8) × Nat × Nat → AV := fun | (b, a, n) => .tup [.agg (valL (readRP b a n).1), .int .i64 (readRP b a n).2.1, .int .i64 (readRP b a n).2.2]
noncomputable def p_readR (dp : Nat) : List AV → Store → Option (AV × Store) := primG e_readR (gd (k_readR dp) r_readR)
theorem i_readR : Inj e_readR := by
  rintro ⟨b1, a1, n1⟩ ⟨b2, a2, n2⟩ h
  simpa only [e_readR, enc_inj, rec_inj, AV.str.injEq, AV.int.injEq, AV.bool.injEq, AV.agg.injEq, AV.ptr.injEq, AV.fn.injEq, List.cons.injEq, and_true, true_and, Prod.mk.injEq, Int.natCast_inj] using h
theorem c_readR {E : Env} {dp : Nat} (h : E.prim 67 = some fun _ => p_readR dp) (b : List UInt8) (a : Nat) (n : Nat) (hk : n < dp ∧ n ≤ 16 ∧ a ≤ b.length ∧ b.length ≤ 1048576) {S : Store} {K : AV → Store → Prop} {d : Dm K} : SpD E 67 [enc b, .int .i64 a, .int .i64 n] S K d = K (.tup [.agg (valL (readRP b a n).1), .int .i64 (readRP b a n).2.1, .int .i64 (readRP b a n).2.2]) S := by
  have := callG h i_readR (a := (b, a, n)) (S := S) (args := [enc b, .int .i64 a, .int .i64 n]) (K := K) (d := d) (by simp only [e_readR, rdSL_cons, rdSL_nil, rdS_int, rdS_bool, rdS_str, enc_rdS, rdS_fn0, rdS_csl0, rdS_rec, rdSL_rec, rdS_agg, rdS_tup, Option.bind_some, Option.map_some]) hk
  simpa only [r_readR, topL_cons, topL_nil, top_int, top_bool, top_str, top_csl, enc_top, top_agg, top_rec, top_fn, List.nil_append, killL_nil] using this
theorem c_readR' {E : Env} {dp : Nat} (h : E.prim 67 = some fun _ => p_readR dp) {S : Store} {x0 x1 x2 : AV} {b : List UInt8} {a : Nat} {n : Nat} (h0 : rdS S x0 = some (enc b)) (h1 : rdS S x1 = some (.int .i64 a)) (h2 : rdS S x2 = some (.int .i64 n)) (hk : n < dp ∧ n ≤ 16 ∧ a ≤ b.length ∧ b.length ≤ 1048576) {K : AV → Store → Prop} {d : Dm K} : SpD E 67 [x0, x1, x2] S K d = K (.tup [.agg (valL (readRP b a n).1), .int .i64 (readRP b a n).2.1, .int .i64 (readRP b a n).2.2]) (killL (topIdsL [x0, x1, x2]) S) :=
  callG h i_readR (a := (b, a, n)) (by simp only [e_readR, rdSL, h0, h1, h2, Option.bind_some, Option.map_some]) hk
def e_decodeR : List UInt8 → List AV := fun b => [enc b]
def k_decodeR : List UInt8 → Prop := fun b => True
def r_decodeR : List UInt8 → AV := fun b => .tup [.agg (valL (decodeP b).1), .int .i64 (decodeP b).2]
noncomputable def p_decodeR : List AV → Store → Option (AV × Store) := primG e_decodeR (gd k_decodeR r_decodeR)
theorem i_decodeR : Inj e_decodeR := by
  intro b1 b2 h
  simpa only [e_decodeR, enc_inj, rec_inj, AV.str.injEq, AV.int.injEq, AV.bool.injEq, AV.agg.injEq, AV.ptr.injEq, AV.fn.injEq, List.cons.injEq, and_true, true_and, Prod.mk.injEq] using h
theorem c_decodeR {E : Env} (h : E.prim 49 = some fun _ => p_decodeR) (b : List UInt8) {S : Store} {K : AV → Store → Prop} {d : Dm K} : SpD E 49 [enc b] S K d = K (.tup [.agg (valL (decodeP b).1), .int .i64 (decodeP b).2]) S := by
  have := callG h i_decodeR (a := b) (S := S) (args := [enc b]) (K := K) (d := d) (by simp only [e_decodeR, rdSL_cons, rdSL_nil, rdS_int, rdS_bool, rdS_str, enc_rdS, rdS_fn0, rdS_csl0, rdS_rec, rdSL_rec, rdS_agg, rdS_tup, Option.bind_some, Option.map_some]) trivial
  simpa only [r_decodeR, topL_cons, topL_nil, top_int, top_bool, top_str, top_csl, enc_top, top_agg, top_rec, top_fn, List.nil_append, killL_nil] using this
theorem c_decodeR' {E : Env} (h : E.prim 49 = some fun _ => p_decodeR) {S : Store} {x0 : AV} {b : List UInt8} (h0 : rdS S x0 = some (enc b)) {K : AV → Store → Prop} {d : Dm K} : SpD E 49 [x0] S K d = K (.tup [.agg (valL (decodeP b).1), .int .i64 (decodeP b).2]) (killL (topIdsL [x0]) S) :=
  callG h i_decodeR (a := b) (by simp only [e_decodeR, rdSL, h0, Option.bind_some, Option.map_some]) trivial
def e_ofR28 : List Val → List AV := fun l => [enc l]
def k_ofR28 : List Val → Prop := fun l => True
def r_ofR28 : List Val → AV := fun l => .agg (valL (.mk 3 0 [] l))
noncomputable def p_ofR28 : List AV → Store → Option (AV × Store) := primG e_ofR28 (gd k_ofR28 r_ofR28)
theorem i_ofR28 : Inj e_ofR28 := by
  intro l1 l2 h
  simpa only [e_ofR28, enc_inj, rec_inj, AV.str.injEq, AV.int.injEq, AV.bool.injEq, AV.agg.injEq, AV.ptr.injEq, AV.fn.injEq, List.cons.injEq, and_true, true_and, Prod.mk.injEq] using h
theorem c_ofR28 {E : Env} (h : E.prim 47 = some fun _ => p_ofR28) (l : List Val) {S : Store} {K : AV → Store → Prop} {d : Dm K} : SpD E 47 [enc l] S K d = K (.agg (valL (.mk 3 0 [] l))) S := by
  have := callG h i_ofR28 (a := l) (S := S) (args := [enc l]) (K := K) (d := d) (by simp only [e_ofR28, rdSL_cons, rdSL_nil, rdS_int, rdS_bool, rdS_str, enc_rdS, rdS_fn0, rdS_csl0, rdS_rec, rdSL_rec, rdS_agg, rdS_tup, Option.bind_some, Option.map_some]) trivial
  simpa only [r_ofR28, topL_cons, topL_nil, top_int, top_bool, top_str, top_csl, enc_top, top_agg, top_rec, top_fn, List.nil_append, killL_nil] using this
theorem c_ofR28' {E : Env} (h : E.prim 47 = some fun _ => p_ofR28) {S : Store} {x0 : AV} {l : List Val} (h0 : rdS S x0 = some (enc l)) {K : AV → Store → Prop} {d : Dm K} : SpD E 47 [x0] S K d = K (.agg (valL (.mk 3 0 [] l))) (killL (topIdsL [x0]) S) :=
  callG h i_ofR28 (a := l) (by simp only [e_ofR28, rdSL, h0, Option.bind_some, Option.map_some]) trivial
def e_numR28 : Int → List AV := fun n => [.int .i64 n]
def k_numR28 : Int → Prop := fun n => True
def r_numR28 : Int → AV := fun n => .agg (valL (.mk 1 n [] []))
noncomputable def p_numR28 : List AV → Store → Option (AV × Store) := primG e_numR28 (gd k_numR28 r_numR28)
theorem i_numR28 : Inj e_numR28 := by
  intro n1 n2 h
  simpa only [e_numR28, enc_inj, rec_inj, AV.str.injEq, AV.int.injEq, AV.bool.injEq, AV.agg.injEq, AV.ptr.injEq, AV.fn.injEq, List.cons.injEq, and_true, true_and, Prod.mk.injEq] using h
theorem c_numR28 {E : Env} (h : E.prim 44 = some fun _ => p_numR28) (n : Int) {S : Store} {K : AV → Store → Prop} {d : Dm K} : SpD E 44 [.int .i64 n] S K d = K (.agg (valL (.mk 1 n [] []))) S := by
  have := callG h i_numR28 (a := n) (S := S) (args := [.int .i64 n]) (K := K) (d := d) (by simp only [e_numR28, rdSL_cons, rdSL_nil, rdS_int, rdS_bool, rdS_str, enc_rdS, rdS_fn0, rdS_csl0, rdS_rec, rdSL_rec, rdS_agg, rdS_tup, Option.bind_some, Option.map_some]) trivial
  simpa only [r_numR28, topL_cons, topL_nil, top_int, top_bool, top_str, top_csl, enc_top, top_agg, top_rec, top_fn, List.nil_append, killL_nil] using this
theorem c_numR28' {E : Env} (h : E.prim 44 = some fun _ => p_numR28) {S : Store} {x0 : AV} {n : Int} (h0 : rdS S x0 = some (.int .i64 n)) {K : AV → Store → Prop} {d : Dm K} : SpD E 44 [x0] S K d = K (.agg (valL (.mk 1 n [] []))) (killL (topIdsL [x0]) S) :=
  callG h i_numR28 (a := n) (by simp only [e_numR28, rdSL, h0, Option.bind_some, Option.map_some]) trivial
def e_rawR28 : List UInt8 → List AV := fun b => [enc b]
def k_rawR28 : List UInt8 → Prop := fun b => True
def r_rawR28 : List UInt8 → AV := fun b => .agg (valL (.mk 2 0 b []))
noncomputable def p_rawR28 : List AV → Store → Option (AV × Store) := primG e_rawR28 (gd k_rawR28 r_rawR28)
theorem i_rawR28 : Inj e_rawR28 := by
  intro b1 b2 h
  simpa only [e_rawR28, enc_inj, rec_inj, AV.str.injEq, AV.int.injEq, AV.bool.injEq, AV.agg.injEq, AV.ptr.injEq, AV.fn.injEq, List.cons.injEq, and_true, true_and, Prod.mk.injEq] using h
theorem c_rawR28 {E : Env} (h : E.prim 45 = some fun _ => p_rawR28) (b : List UInt8) {S : Store} {K : AV → Store → Prop} {d : Dm K} : SpD E 45 [enc b] S K d = K (.agg (valL (.mk 2 0 b []))) S := by
  have := callG h i_rawR28 (a := b) (S := S) (args := [enc b]) (K := K) (d := d) (by simp only [e_rawR28, rdSL_cons, rdSL_nil, rdS_int, rdS_bool, rdS_str, enc_rdS, rdS_fn0, rdS_csl0, rdS_rec, rdSL_rec, rdS_agg, rdS_tup, Option.bind_some, Option.map_some]) trivial
  simpa only [r_rawR28, topL_cons, topL_nil, top_int, top_bool, top_str, top_csl, enc_top, top_agg, top_rec, top_fn, List.nil_append, killL_nil] using this
theorem c_rawR28' {E : Env} (h : E.prim 45 = some fun _ => p_rawR28) {S : Store} {x0 : AV} {b : List UInt8} (h0 : rdS S x0 = some (enc b)) {K : AV → Store → Prop} {d : Dm K} : SpD E 45 [x0] S K d = K (.agg (valL (.mk 2 0 b []))) (killL (topIdsL [x0]) S) :=
  callG h i_rawR28 (a := b) (by simp only [e_rawR28, rdSL, h0, Option.bind_some, Option.map_some]) trivial
def e_kindsR : Val × (List Int) → List AV := fun | (v, ks) => [.agg (valL v), enc ks]
def k_kindsR : Val × (List Int) → Prop := fun | (v, ks) => ks.length ≤ 9223372036854775807 ∧ v.list.length ≤ 9223372036854775807
def r_kindsR : Val × (List Int) → AV := fun | (v, ks) => .bool (fieldsP v ks).2
noncomputable def p_kindsR : List AV → Store → Option (AV × Store) := primS e_kindsR (gd k_kindsR r_kindsR)
theorem i_kindsR : Inj e_kindsR := by
  rintro ⟨v1, ks1⟩ ⟨v2, ks2⟩ h
  simpa only [e_kindsR, enc_inj, rec_inj, AV.str.injEq, AV.int.injEq, AV.bool.injEq, AV.agg.injEq, AV.ptr.injEq, AV.fn.injEq, List.cons.injEq, and_true, true_and, Prod.mk.injEq, val_inj] using h
theorem c_kindsR {E : Env} (h : E.prim 56 = some fun _ => p_kindsR) (v : Val) (ks : List Int) (hk : ks.length ≤ 9223372036854775807 ∧ v.list.length ≤ 9223372036854775807) {S : Store} {K : AV → Store → Prop} {d : Dm K} : SpD E 56 [.agg (valL v), enc ks] S K d = K (.bool (fieldsP v ks).2) S :=
  callS h i_kindsR (a := (v, ks)) (by simp only [e_kindsR, rdSL_cons, rdSL_nil, rdS_int, rdS_bool, rdS_str, enc_rdS, rdS_fn0, rdS_csl0, rdS_rec, rdSL_rec, rdS_agg, rdS_tup, Option.bind_some, Option.map_some]) hk
theorem c_kindsR' {E : Env} (h : E.prim 56 = some fun _ => p_kindsR) {S : Store} {x0 x1 : AV} {v : Val} {ks : List Int} (h0 : rdS S x0 = some (.agg (valL v))) (h1 : rdS S x1 = some (enc ks)) (hk : ks.length ≤ 9223372036854775807 ∧ v.list.length ≤ 9223372036854775807) {K : AV → Store → Prop} {d : Dm K} : SpD E 56 [x0, x1] S K d = K (.bool (fieldsP v ks).2) S :=
  callS h i_kindsR (a := (v, ks)) (by simp only [e_kindsR, rdSL, h0, h1, Option.bind_some, Option.map_some]) hk

theorem ok_ofR28 {E : Env} (hp : E.prim 47 = none) (hf : E.F 47 = some F47) : OkG E 47 e_ofR28 (gd k_ofR28 r_ofR28) := by
  refine OkG.code hp hf (fun _ => rfl) fun l S _ => ?_
  simp -dsimp only [go_sem, F47, e_ofR28, r_ofR28]
  exact Conv.good (List.prefix_append _ _) (fun i h => by simp [topIds, topIdsL, enc_top] at h) (rd_val _ _ _ [] _ rfl (enc_rdS _ _))
theorem ok_numR28 {E : Env} (hp : E.prim 44 = none) (hf : E.F 44 = some F44) : OkG E 44 e_numR28 (gd k_numR28 r_numR28) := by
  refine OkG.code hp hf (fun _ => rfl) fun l S _ => ?_
  simp -dsimp only [go_sem, F44, e_numR28, r_numR28]
  exact Conv.good (List.prefix_append _ _) (fun i h => by simp [topIds, topIdsL, enc_top] at h) (rd_val _ _ _ [] [] rfl rfl)
theorem ok_rawR28 {E : Env} (hp : E.prim 45 = none) (hf : E.F 45 = some F45) : OkG E 45 e_rawR28 (gd k_rawR28 r_rawR28) := by
  refine OkG.code hp hf (fun _ => rfl) fun l S _ => ?_
  simp -dsimp only [go_sem, F45, e_rawR28, r_rawR28]
  exact Conv.good (List.prefix_append _ _) (fun i h => by simp [topIds, topIdsL, enc_top] at h) (rd_val _ _ _ _ [] (enc_rdS _ _) rfl)
theorem natz {n : Nat} (h : decide ((0 : Int) < (n : Int)) = false) : n = 0 := by have := of_decide_eq_false h; omega
theorem natp {n : Nat} (h : decide ((0 : Int) < (n : Int)) = true) : 0 < n := by have := of_decide_eq_true h; omega
theorem tmod_nat (m : Nat) : ((m : Int)).tmod 256 = ((m % 256 : Nat) : Int) := by rw [Int.tmod_eq_emod_of_nonneg (by omega)]; omega
theorem tdiv_nat (m : Nat) : ((m : Int)).tdiv 256 = ((m / 256 : Nat) : Int) := by rw [Int.tdiv_eq_ediv_of_nonneg (by omega)]; omega
theorem b_rem256 (m : Nat) : abin .rem (.int .i64 (m : Int)) (.int .i64 256) = some (.int .i64 ((m % 256 : Nat) : Int)) := by rw [b_rem (by decide), tmod_nat]
theorem b_quo256 {m : Nat} (h : m ≤ 4611686018427387904) : abin .quo (.int .i64 (m : Int)) (.int .i64 256) = some (.int .i64 ((m / 256 : Nat) : Int)) := by
  rw [b_quo (by decide), tdiv_nat, wrap64 (by omega) (by omega)]
theorem ok_lowR {E : Env} (hp : E.prim 79 = none) (hf : E.F 79 = some F79) : OkG E 79 e_lowR (gd k_lowR r_lowR) := by
  refine OkG.code hp hf (fun _ => rfl) fun ⟨n, k⟩ S _ => ?_
  have fin2 : ∀ T, S <+: T → Conv S T (.tup [.nilS, .int .i64 2]) S (.tup [enc ([] : List UInt8), .int .i64 2]) := fun T h => conv_pair h (fun i h => by simp [topIds] at h) rfl
  have hno : ¬ (1 ≤ k ∧ k ≤ 8 ∧ 0 ≤ n ∧ n ≤ 4611686018427387904) → lowP n k = ([], 2) := fun h => if_neg fun q => h ⟨q.1, q.2.1, q.2.2.1, q.2.2.2.1⟩
  cases y1 : decide (k < 1)
  rotate_left
  · have hl := hno (by have := of_decide_eq_true y1; omega)
    simp -dsimp only [go_sem, F79, e_lowR, r_lowR, hl, y1]
    exact fin2 _ List.prefix_rfl
  cases y2 : decide (8 < k)
  rotate_left
  · have hl := hno (by have := of_decide_eq_true y2; omega)
    simp -dsimp only [go_sem, F79, e_lowR, r_lowR, hl, y1, y2]
    exact fin2 _ List.prefix_rfl
  cases y3 : decide (n < 0)
  rotate_left
  · have hl := hno (by have := of_decide_eq_true y3; omega)
    simp -dsimp only [go_sem, F79, e_lowR, r_lowR, hl, y1, y2, y3]
    exact fin2 _ List.prefix_rfl
  cases y4 : decide (4611686018427387904 < n)
  rotate_left
  · have hl := hno (by have := of_decide_eq_true y4; omega)
    simp -dsimp only [go_sem, F79, e_lowR, r_lowR, hl, y1, y2, y3, y4]
    exact fin2 _ List.prefix_rfl
  have z1 := of_decide_eq_false y1
  have z2 := of_decide_eq_false y2
  have z3 := of_decide_eq_false y3
  have z4 := of_decide_eq_false y4
  obtain ⟨j, rfl⟩ : ∃ j : Nat, k = j := ⟨k.toNat, by omega⟩
  obtain ⟨m, rfl⟩ : ∃ m : Nat, n = m := ⟨n.toNat, by omega⟩
  simp -dsimp only [go_sem, F79, e_lowR, r_lowR, y1, y2, y3, y4]
  refine Ex.count (n := j) (i0 := 0) (fun i g T => g 1 = .int .i64 (j : Int) ∧ g 0 = .int .i64 ((m / 256 ^ i : Nat) : Int) ∧ OwnL S T (g 6) ((leN j m).take i)) (by decide) (by omega) rfl (by omega) ⟨rfl, by rw [Nat.pow_zero, Nat.div_one]; rfl, OwnL.nil List.prefix_rfl⟩ ?_ ?_ ?_
  · rintro i g T hi gi ⟨g1, g0, hO⟩
    simp -dsimp only [go_sem, gi, g1]
  · rintro i g T hi gi ⟨g1, g0, hO⟩
    have hq : m / 256 ^ i ≤ 4611686018427387904 := by
      have := Nat.div_le_self m (256 ^ i); omega
    have hb : IntKind.u8.wrap ((m / 256 ^ i % 256 : Nat) : Int) = ((UInt8.ofNat (m / 256 ^ i % 256)).toNat : Int) := u8_wrap _
    simp -dsimp only [go_sem, gi, g1, g0, b_rem256, hb]
    refine OwnL.app hO (m := [UInt8.ofNat (m / 256 ^ i % 256)]) rfl rfl (by simp only [List.length_singleton, List.length_take]; omega) fun x' T' hO' hK hi' => ?_
    simp -dsimp only [go_sem, gi, g1, g0, b_quo256 hq]
    have hll : i < (leN j m).length := by rw [leN_len]; exact hi
    refine ⟨by rw [Nat.div_div_eq_div_mul, Nat.pow_succ], ?_⟩
    rw [List.take_succ_eq_append_getElem hll, leN_get]; exact hO'
  · rintro g T gi ⟨g1, g0, hO⟩
    rw [List.take_of_length_le (by rw [leN_len]; omega)] at hO
    cases yz : decide ((0 : Int) < ((m / 256 ^ j : Nat) : Int))
    · have hz := of_decide_eq_false yz
      have hl : lowP (m : Int) (j : Int) = (leN j m, 0) := by
        have hp : 0 < 256 ^ j := Nat.pow_pos (by decide)
        have h5 : m < 256 ^ j := (Nat.div_eq_zero_iff.1 (natz yz)).resolve_left (by omega)
        have hc : 1 ≤ (j : Int) ∧ (j : Int) ≤ 8 ∧ 0 ≤ (m : Int) ∧ (m : Int) ≤ 4611686018427387904 ∧ (m : Int).toNat < 256 ^ (j : Int).toNat := ⟨by omega, by omega, by omega, by omega, h5⟩
        exact if_pos hc
      simp -dsimp only [go_sem, g1, g0, yz, F79, r_lowR, hl]
      exact conv_pair hO.1 hO.ids hO.rd
    · have hz := of_decide_eq_true yz
      have hl : lowP (m : Int) (j : Int) = ([], 2) := by
        unfold lowP; rw [if_neg]
        rintro ⟨_, _, _, _, h⟩
        simp only [Int.toNat_natCast] at h
        rw [Nat.div_eq_of_lt h] at hz; simp at hz
      simp -dsimp only [go_sem, g1, g0, yz, F79, r_lowR, hl]
      exact fin2 _ hO.1
theorem ok_turnedR {E : Env} (hp : E.prim 80 = none) (hf : E.F 80 = some F80) : OkG E 80 e_turnedR (gd k_turnedR r_turnedR) := by
  refine OkG.code hp hf (fun _ => rfl) fun l S hk => ?_
  have hk : l.length ≤ 1000000 := hk
  have w1 : IntKind.i64.wrap ((l.length : Int) - 1) = (l.length : Int) - 1 := wrap64 (by omega) (by omega)
  simp -dsimp only [go_sem, F80, e_turnedR, w1]
  refine Ex.while (fun k g T => k ≤ l.length ∧ g 0 = enc l ∧ g 4 = .int .i64 ((k : Int) - 1) ∧ OwnL S T (g 3) (l.drop k).reverse) l.length ⟨Nat.le_refl _, rfl, rfl, by rw [List.drop_length]; exact OwnL.nil List.prefix_rfl⟩ ?_
  rintro k g T ⟨hkl, g0, g4, hO⟩
  cases k with
  | zero =>
    rw [List.drop_zero] at hO
    simp -dsimp only [go_sem, g0, g4, F80, r_turnedR]
    exact hO.conv
  | succ k =>
    have hlt : k < l.length := by omega
    have e : ((k + 1 : Nat) : Int) - 1 = (k : Int) := by omega
    have y : decide ((0 : Int) ≤ (k : Int)) = true := decide_eq_true (by omega)
    have w2 : IntKind.i64.wrap ((k : Int) - 1) = (k : Int) - 1 := wrap64 (by omega) (by omega)
    rw [e] at g4
    simp -dsimp only [go_sem, g0, g4, y, ia_enc .i64 hlt]
    refine OwnL.app hO (m := [l[k]]) rfl rfl (by simp only [List.length_singleton, List.length_reverse, List.length_drop]; omega) fun x' T' hO' hK hi' => ?_
    simp -dsimp only [go_sem, g0, g4, w2]
    refine ⟨k, by omega, by omega, rfl, ?_⟩
    rw [List.drop_eq_getElem_cons hlt, List.reverse_cons]; exact hO'
theorem ok_putR {E : Env} (hp : E.prim 65 = none) (hf : E.F 65 = some F65) (h1 : E.prim 79 = some fun _ => p_lowR) (h2 : E.prim 80 = some fun _ => p_turnedR) : OkG E 65 e_putR (gd k_putR r_putR) := by
  refine OkG.code hp hf (fun _ => rfl) fun ⟨n, k⟩ S _ => ?_
  have hl : (lowP n k).1.length ≤ 1000000 := by
    unfold lowP; split
    · simp only [leN_len]; omega
    · simp
  simp -dsimp only [go_sem, F65, e_putR, c_lowR h1 n k, c_turnedR h2 _ hl, r_putR, putP]
  exact Conv.good List.prefix_rfl (fun i h => by simp [topIds, topIdsL, enc_top] at h) (by simp [rdS, rdSL, enc_rdS, rd0])
theorem ofBE_app (x : List UInt8) : ∀ n (y : List UInt8), y.length = n → ofBE x ≤ ofBE (x ++ y)
  | 0, y, h => by have := List.eq_nil_of_length_eq_zero h; subst this; simp
  | n + 1, y, h => by
    obtain ⟨a, m, rfl⟩ : ∃ a m, y = m ++ [a] := ⟨y.getLast (by rintro rfl; simp at h), y.dropLast, (List.dropLast_concat_getLast _).symm⟩
    rw [← List.append_assoc, ofBE_snoc]
    have := ofBE_app x n m (by simpa using h)
    omega
theorem ofBE_take (l : List UInt8) (i : Nat) : ofBE (l.take i) ≤ ofBE l := by
  have := ofBE_app (l.take i) _ (l.drop i) rfl
  rwa [List.take_append_drop] at this
theorem ok_getR {E : Env} (hp : E.prim 85 = none) (hf : E.F 85 = some F85) : OkS E 85 e_getR (gd k_getR r_getR) := by
  refine OkS.code hp hf (fun _ => rfl) fun b _ => ?_
  by_cases h0 : b.length = 0
  · have y : decide ((b.length : Int) = 0) = true := decide_eq_true (by omega)
    simp -dsimp only [go_sem, F85, e_getR, r_getR, getP, y, h0]
  have y0 : decide ((b.length : Int) = 0) = false := decide_eq_false (by omega)
  by_cases h8 : 8 < b.length
  · have y : decide ((8 : Int) < (b.length : Int)) = true := decide_eq_true (by omega)
    simp -dsimp only [go_sem, F85, e_getR, r_getR, getP, y0, y, h0, h8]
  have y8 : decide ((8 : Int) < (b.length : Int)) = false := decide_eq_false (by omega)
  simp -dsimp only [go_sem, F85, e_getR, r_getR, y0, y8]
  refine Ex.count (n := b.length) (i0 := 0) (fun i g T => g 0 = enc b ∧ g 4 = .int .i64 ((ofBE (b.take i) : Nat) : Int) ∧ ofBE (b.take i) ≤ 4611686018427387904) (by decide) (by omega) rfl (by omega) ⟨rfl, rfl, by simp [ofBE]⟩ ?_ ?_ ?_
  · rintro i g T hi gi ⟨g0, g4, hx⟩
    simp -dsimp only [go_sem, gi, g0]
  · rintro i g T hi gi ⟨g0, g4, hx⟩
    have hs : ofBE (b.take (i + 1)) = ofBE (b.take i) * 256 + b[i].toNat := by rw [List.take_succ_eq_append_getElem hi, ofBE_snoc]
    have hm := ofBE_take b (i + 1)
    have hc := b[i].toNat_lt
    have w1 : IntKind.i64.wrap ((b[i].toNat : Nat) : Int) = ((b[i].toNat : Nat) : Int) := wrap64 (by omega) (by omega)
    have bad : 4611686018427387904 < ofBE (b.take (i + 1)) → getP b = (0, 11) := fun h => by unfold getP; rw [if_neg h0, if_neg h8, if_pos (by omega)]
    cases z1 : decide ((18014398509481984 : Int) < ((ofBE (b.take i) : Nat) : Int))
    rotate_left
    · have hb := bad (by have := of_decide_eq_true z1; omega)
      simp -dsimp only [go_sem, gi, g0, g4, ia_enc .i64 hi, w1, z1, F85, r_getR, hb]
    have z1' := of_decide_eq_false z1
    cases z2 : decide (((ofBE (b.take i) : Nat) : Int) = 18014398509481984)
    rotate_left
    · have z2' := of_decide_eq_true z2
      cases z3 : decide ((0 : Int) < ((b[i].toNat : Nat) : Int))
      rotate_left
      · have hb := bad (by have := of_decide_eq_true z3; omega)
        simp -dsimp only [go_sem, gi, g0, g4, ia_enc .i64 hi, w1, z1, z2, z3, F85, r_getR, hb]
      have z3' := of_decide_eq_false z3
      have w2 : IntKind.i64.wrap (256 * ((ofBE (b.take i) : Nat) : Int)) = 256 * ((ofBE (b.take i) : Nat) : Int) := wrap64 (by omega) (by omega)
      have w3 : IntKind.i64.wrap (256 * ((ofBE (b.take i) : Nat) : Int) + ((b[i].toNat : Nat) : Int)) = ((ofBE (b.take (i + 1)) : Nat) : Int) := by rw [wrap64 (by omega) (by omega)]; omega
      simp -dsimp only [go_sem, gi, g0, g4, ia_enc .i64 hi, w1, z1, z2, z3, w2, w3]
      omega
    have z2' := of_decide_eq_false z2
    have w2 : IntKind.i64.wrap (256 * ((ofBE (b.take i) : Nat) : Int)) = 256 * ((ofBE (b.take i) : Nat) : Int) := wrap64 (by omega) (by omega)
    have w3 : IntKind.i64.wrap (256 * ((ofBE (b.take i) : Nat) : Int) + ((b[i].toNat : Nat) : Int)) = ((ofBE (b.take (i + 1)) : Nat) : Int) := by rw [wrap64 (by omega) (by omega)]; omega
    simp -dsimp only [go_sem, gi, g0, g4, ia_enc .i64 hi, w1, z1, z2, w2, w3]
    omega
  · rintro g T gi ⟨g0, g4, hx⟩
    rw [List.take_length] at g4 hx
    have hg : getP b = (((ofBE b : Nat) : Int), 0) := by unfold getP; rw [if_neg h0, if_neg h8, if_neg (by omega)]
    simp -dsimp only [go_sem, g0, g4, F85, r_getR, hg]
end Go.Proofs.YtaajlbbooneiiaaDoor.Avm
set_option linter.unusedVariables false
set_option linter.unusedSimpArgs false
set_option maxRecDepth 10000
namespace Go.Proofs.YtaajlbbooneiiaaDoor.Avm

theorem OwnL.new {α : Type} [Rec α] {S0 T : Store} {l : List α} {n sz : Nat} (h : S0 <+: T) (hn : n = l.length) (hs : sz = Rec.sz α) : OwnL S0 (T ++ [.cells (cl l)]) (.sl T.length 0 n sz) l := by
  subst hn; subst hs
  exact ⟨prefix_app h _, cl_len l, .inr ⟨T.length, prefix_len h, rfl, by rw [get_new0]; rfl⟩⟩
theorem OwnL.conv' {α : Type} [Rec α] {S T L : Store} {x : AV} {l : List α} (h : OwnL (S ++ L) T x l) : Conv S T x S (enc l) :=
  Conv.good ((List.prefix_append _ _).trans h.1) (fun i hi => by have := h.ids i hi; simp at this; omega) h.rd
theorem lit_one (T : Store) (c : UInt8) {x : Int} (hx : x = c.toNat) : litA T 1 1 [.int .u8 0] (some [.int .u8 x]) = some (.sl T.length 0 1 1, T ++ [AObj.cells (cl [c])]) := by subst hx; exact litA_eq _ _ _ _ _ rfl
theorem lit_two (T : Store) (c e : UInt8) {x y : Int} (hx : x = c.toNat) (hy : y = e.toNat) : litA T 1 2 [.int .u8 0, .int .u8 0] (some [.int .u8 x, .int .u8 y]) = some (.sl T.length 0 2 1, T ++ [AObj.cells (cl [c, e])]) := by subst hx; subst hy; exact litA_eq _ _ _ _ _ rfl
theorem okB_bytesR {E : Env} {d : Nat} (h0 : E.prim 46 = some fun _ => p_bytesR d) (h1 : E.prim 65 = some fun _ => p_putR) : OkGB E F46 e_bytesR (gd (k_bytesR (d + 1)) r_bytesR) := by
  refine OkGB.code (fun _ => rfl) fun v S ⟨hp, hd, hb⟩ => ?_
  obtain ⟨k, n, b, l⟩ := v
  have hpp : pure1 (.mk k n b l) = true ∧ pureAL l = true := by simpa [pureA] using hp
  by_cases k1 : k = 1
  · subst k1
    obtain ⟨⟨n1, n2⟩, n3, n4⟩ := pure1_1 hpp.1 rfl
    simp only [Val.num] at n1 n2
    obtain ⟨m, rfl⟩ : ∃ m : Nat, n = m := ⟨n.toNat, by omega⟩
    simp -dsimp only [go_sem, F46, e_bytesR]
    refine Ex.while (fun k g T => ∃ s : Nat, k = m / 256 ^ s ∧ s ≤ 8 ∧ (s = 0 ∨ 0 < m / 256 ^ (s - 1)) ∧ g 1 = .ptr S.length 0 ∧ g 3 = .int .i64 s ∧ g 4 = .int .i64 ((m / 256 ^ s : Nat) : Int) ∧ T = S ++ [.cells (valL (.mk 1 m b l))]) m ⟨0, by simp, by omega, .inl rfl, rfl, rfl, by rw [Nat.pow_zero, Nat.div_one]; rfl, rfl⟩ ?_
    rintro k g T ⟨s, rfl, hs8, hs0, g1, g3, g4, rfl⟩
    have hq : m / 256 ^ s ≤ 4611686018427387904 := by
      have := Nat.div_le_self m (256 ^ s); omega
    cases yz : decide ((0 : Int) < ((m / 256 ^ s : Nat) : Int))
    · have hz : m / 256 ^ s = 0 := natz yz
      have hpos : 0 < 256 ^ s := Nat.pow_pos (by decide)
      have hlt : m < 256 ^ s := (Nat.div_eq_zero_iff.1 hz).resolve_left (by omega)
      have hpl := plain_of (m := m) (s := s) (by omega) hs8 hlt hs0
      have hby : bytesA (.mk 1 m b l) = 1 :: UInt8.ofNat s :: (leN s m).reverse := by rw [bytesA_1, hpl, List.length_reverse, leN_len]
      have hlit := lit_two (S ++ [AObj.cells (valL (.mk 1 m b l))]) 1 (UInt8.ofNat s) (x := 1) (y := (UInt8.ofNat s).toNat) rfl rfl
      have hO := OwnL.new (S0 := S ++ [.cells (valL (.mk 1 m b l))]) (T := S ++ [.cells (valL (.mk 1 m b l))]) (l := [(1 : UInt8), UInt8.ofNat s]) (n := 2) (sz := 1) List.prefix_rfl rfl rfl
      simp only [List.append_assoc, List.cons_append, List.nil_append, List.length_append, List.length_singleton] at hlit hO
      cases yp : decide ((0 : Int) < (s : Int))
      · have hs : s = 0 := by have := of_decide_eq_false yp; omega
        subst hs
        simp -dsimp only [go_sem, g1, g3, g4, yz, yp, u8_wrap, hlit, F46, r_bytesR, hby]
        exact hO.conv'
      · have hs1 : 1 ≤ s := by have := of_decide_eq_true yp; omega
        have hput := put_eq (m := m) (s := s) hs1 hs8 (by omega) hlt
        simp -dsimp only [go_sem, g1, g3, g4, yz, yp, u8_wrap, hlit, F46, c_putR h1, hput]
        refine OwnL.app hO rfl (el_enc _ rfl) (by simp only [List.length_cons, List.length_nil, List.length_reverse, leN_len]; omega) fun x2 T2 hO2 hK2 hi2 => ?_
        simp -dsimp only [go_sem, g1, F46, r_bytesR, hby]
        simpa using hO2.conv'
    · have hz := natp yz
      have hs7 : s < 8 := by
        refine Nat.lt_of_not_le fun h => ?_
        have : s = 8 := by omega
        subst this
        have := Nat.div_eq_of_lt (lt8 (m := m) (by omega))
        omega
      have w1 : IntKind.i64.wrap ((s : Int) + 1) = ((s + 1 : Nat) : Int) := wrapS (by omega)
      simp -dsimp only [go_sem, g1, g3, g4, yz, b_quo256 hq, w1]
      refine ⟨m / 256 ^ (s + 1), ?_, s + 1, rfl, by omega, .inr (by rw [Nat.add_sub_cancel]; omega), rfl, by rw [Nat.div_div_eq_div_mul, Nat.pow_succ]⟩
      rw [Nat.pow_succ, ← Nat.div_div_eq_div_mul]
      exact Nat.div_lt_self (by omega) (by decide)
  by_cases k2 : k = 2
  · subst k2
    rw [bytesA_2] at hb
    simp only [List.length_cons, List.length_append] at hb
    have hl8 := putP_len b.length 3
    have hO := OwnL.new (S0 := S ++ [.cells (valL (.mk 2 n b l))]) (T := S ++ [.cells (valL (.mk 2 n b l))]) (l := [(2 : UInt8)]) (n := 1) (sz := 1) List.prefix_rfl rfl rfl
    have hlit := lit_one (S ++ [AObj.cells (valL (.mk 2 n b l))]) 2 (x := 2) rfl
    simp only [List.append_assoc, List.cons_append, List.nil_append, List.length_append, List.length_singleton] at hlit hO
    simp -dsimp only [go_sem, F46, e_bytesR, c_putR h1, hlit]
    refine OwnL.app hO rfl (el_enc _ rfl) (by simp only [List.length_singleton]; omega) fun x2 T2 hO2 hK2 hi2 => ?_
    have q2 : T2[S.length]? = some (.cells (valL (.mk 2 n b l))) := prefix_get hO2.1 (get_new0 _ _)
    simp -dsimp only [go_sem, q2]
    refine OwnL.app hO2 rfl (el_enc _ rfl) (by simp only [List.length_append, List.length_singleton]; omega) fun x3 T3 hO3 hK3 hi3 => ?_
    simp -dsimp only [go_sem, F46, r_bytesR, bytesA_2]
    simpa using hO3.conv'
  · rw [bytesA_3 n b l k1 k2] at hb
    simp only [List.length_cons, List.length_append] at hb
    have hl8 := putP_len l.length 2
    obtain ⟨q0, _, _, q3⟩ := pure1_3 hpp.1 k1 k2
    simp only [Val.kind, Val.list] at q0 q3
    have hdd : deepAL l + 1 < d + 1 := by simpa [deepA, q0] using hd
    have hO := OwnL.new (S0 := S ++ [.cells (valL (.mk k n b l))]) (T := S ++ [.cells (valL (.mk k n b l))]) (l := [(3 : UInt8)]) (n := 1) (sz := 1) List.prefix_rfl rfl rfl
    have hlit := lit_one (S ++ [AObj.cells (valL (.mk k n b l))]) 3 (x := 3) rfl
    simp only [List.append_assoc, List.cons_append, List.nil_append, List.length_append, List.length_singleton] at hlit hO
    simp -dsimp only [go_sem, F46, e_bytesR, c_putR h1, hlit, k1, k2]
    refine OwnL.app hO rfl (el_enc _ rfl) (by simp only [List.length_singleton]; omega) fun x2 T2 hO2 hK2 hi2 => ?_
    simp -dsimp only [go_sem]
    refine Ex.count (n := l.length) (i0 := 0) (fun i g T => g 1 = .ptr S.length 0 ∧ OwnL (S ++ [.cells (valL (.mk k n b l))]) T (g 13) ([3] ++ (putP l.length 2).1 ++ bytesAL (l.take i))) (by decide) (by omega) rfl (by omega) ⟨rfl, by simpa [bytesAL, upd_apply] using hO2⟩ ?_ ?_ ?_
    · rintro i g T hi gi ⟨g1, hO⟩
      have q2 : T[S.length]? = some (.cells (valL (.mk k n b l))) := prefix_get hO.1 (get_new0 _ _)
      simp -dsimp only [go_sem, gi, g1, q2]
    · rintro i g T hi gi ⟨g1, hO⟩
      have q2 : T[S.length]? = some (.cells (valL (.mk k n b l))) := prefix_get hO.1 (get_new0 _ _)
      have ht : bytesAL (l.take (i + 1)) = bytesAL (l.take i) ++ bytesA l[i] := by rw [List.take_succ_eq_append_getElem hi, bytesAL_append]; simp [bytesAL]
      have hbb : (bytesAL (l.take (i + 1))).length ≤ (bytesAL l).length := by
        have : bytesAL l = bytesAL (l.take (i + 1)) ++ bytesAL (l.drop (i + 1)) := by rw [← bytesAL_append, List.take_append_drop]
        rw [this, List.length_append]; omega
      rw [ht, List.length_append] at hbb
      have hm := List.getElem_mem hi
      have cb := fun (S : Store) (K : AV → Store → Prop) (q : Dm K) => c_bytesR h0 l[i] ⟨pureAL_mem hpp.2 _ hm, by have := deepAL_mem _ hm; omega, by omega⟩ (S := S) (K := K) (d := q)
      simp -dsimp only [go_sem, gi, g1, q2, ia_enc .i64 hi, ld_enc, cb]
      refine OwnL.app hO rfl (el_enc _ rfl) (by simp only [List.length_append, List.length_singleton]; omega) fun x3 T3 hO3 hK3 hi3 => ?_
      simp -dsimp only [go_sem, gi, g1]
      rw [ht]; simpa using hO3
    · rintro g T gi ⟨g1, hO⟩
      rw [List.take_length] at hO
      simp -dsimp only [go_sem, F46, r_bytesR, bytesA_3 n b l k1 k2]
      simpa using hO.conv'
theorem ok_kindsR {E : Env} (hp : E.prim 56 = none) (hf : E.F 56 = some F56) : OkS E 56 e_kindsR (gd k_kindsR r_kindsR) := by
  refine OkS.code hp hf (fun _ => rfl) fun ⟨v, ks⟩ ⟨hks, hvl⟩ => ?_
  have hks : ks.length ≤ 9223372036854775807 := hks
  cases y1 : decide (v.kind = 3)
  · have hq : fieldsP v ks = ([], false) := if_neg fun h => of_decide_eq_false y1 h.1
    simp -dsimp only [go_sem, F56, e_kindsR, r_kindsR, y1, hq]
  cases y2 : decide ((v.list.length : Int) = (ks.length : Int))
  · have hq : fieldsP v ks = ([], false) := if_neg fun h => of_decide_eq_false y2 (by rw [← h.2]; simp)
    simp -dsimp only [go_sem, F56, e_kindsR, r_kindsR, y1, y2, hq]
  have hll : v.list.length = ks.length := by have := of_decide_eq_true y2; omega
  simp -dsimp only [go_sem, F56, e_kindsR, r_kindsR, y1, y2]
  refine Ex.count (n := ks.length) (i0 := 0) (fun i g T => g 1 = enc ks ∧ g 2 = .ptr 0 0 ∧ T = [.cells (valL v)] ∧ (v.list.map (·.kind)).take i = ks.take i) (by decide) (by omega) rfl (by omega) ⟨rfl, rfl, rfl, rfl⟩ ?_ ?_ ?_
  · rintro i g T hi gi ⟨g1, g2, rfl, hI⟩
    simp -dsimp only [go_sem, gi, g1]
  · rintro i g T hi gi ⟨g1, g2, rfl, hI⟩
    have hiv : i < v.list.length := by omega
    have hiv' : i < (v.list.map (·.kind)).length := by simpa using hiv
    cases y3 : decide (v.list[i].kind = ks[i])
    · have hq : fieldsP v ks = ([], false) := if_neg fun h => of_decide_eq_false y3 (by
        have := congrArg (fun l : List Int => l[i]?) h.2
        simp only [List.getElem?_map, List.getElem?_eq_getElem hi, List.getElem?_eq_getElem hiv, Option.map_some, Option.some.injEq] at this; exact this)
      simp -dsimp only [go_sem, gi, g1, g2, ia_enc .i64 hi, ld_enc, ia_enc .i64 hiv, y3, F56, r_kindsR, hq]
    · have hIn : (v.list.map (·.kind)).take (i + 1) = ks.take (i + 1) := by
        rw [List.take_succ_eq_append_getElem hiv', List.take_succ_eq_append_getElem hi, hI, List.getElem_map, of_decide_eq_true y3]
      simp -dsimp only [go_sem, gi, g1, g2, ia_enc .i64 hi, ld_enc, ia_enc .i64 hiv, y3, hIn]
  · rintro g T gi ⟨g1, g2, rfl, hI⟩
    rw [List.take_length, List.take_of_length_le (by simp [hll])] at hI
    have hq : fieldsP v ks = (v.list, true) := if_pos ⟨of_decide_eq_true y1, hI⟩
    simp -dsimp only [go_sem, F56, r_kindsR, hq]
end Go.Proofs.YtaajlbbooneiiaaDoor.Avm
set_option linter.unusedVariables false
set_option linter.unusedSimpArgs false
set_option maxRecDepth 10000
namespace Go.Proofs.YtaajlbbooneiiaaDoor.Avm

theorem takeP_eq (t : List UInt8) (n : Nat) : takeP (t, 0) n = if t.length < n then ([], (t, 10)) else (t.take n, (t.drop n, 0)) := by
  unfold takeP; rw [if_pos rfl]
theorem countP_eq (t : List UInt8) (n : Nat) : countP (t, 0) n = if t.length < n then (0, (t, 10)) else ((getP (t.take n)).1.toNat, (t.drop n, 0)) := by
  unfold countP; rw [takeP_eq]
  split
  · rfl
  · rfl
theorem failP_0 (t : List UInt8) : failP (t, 0) = (t, 11) := rfl
theorem number_nil : numberP ([], 0) = (.mk 1 0 [] [], ([], 10)) := rfl
theorem number_eq (d : UInt8) (u : List UInt8) : numberP (d :: u, 0) = if 8 < d.toNat then (.mk 1 0 [] [], (u, 11)) else if u.length < d.toNat then (.mk 1 0 [] [], (u, 10)) else if d.toNat = 0 then (.mk 1 0 [] [], (u, 0))
    else if (getP (u.take d.toNat)).2 ≠ 0 ∨ (u.take d.toNat).headD 0 = 0 then (.mk 1 (getP (u.take d.toNat)).1 [] [], (u.drop d.toNat, 11)) else (.mk 1 (getP (u.take d.toNat)).1 [] [], (u.drop d.toNat, 0)) := by
  unfold numberP
  simp only [count_one]
  by_cases h8 : 8 < d.toNat
  · simp only [if_pos h8, failP_0]
    rw [take_err (s := (u, 11)) (by simp)]; rfl
  · simp only [if_neg h8]
    rw [takeP_eq]
    by_cases hl : u.length < d.toNat
    · simp only [if_pos hl]; rfl
    · simp only [if_neg hl]
      by_cases h0 : d.toNat = 0
      · simp only [h0]; simp
      · have : ¬ (u.take d.toNat).length = 0 := by rw [List.length_take]; omega
        rw [if_neg this, if_neg h0]
        split
        · rw [failP_0]
        · rfl
theorem read_err {b : List UInt8} {a n : Nat} {r : Val × Rdr} (h : valueP n (b.drop a, 0) = r) (he : r.2.2 ≠ 0) : readRP b a n = (nul, 0, r.2.2) := by
  unfold readRP; simp only [h]; rw [if_neg he]
theorem read_ok {b : List UInt8} {a n : Nat} {v : Val} {z : List UInt8} (h : valueP n (b.drop a, 0) = (v, (z, 0))) : readRP b a n = (v, b.length - z.length, 0) := by
  unfold readRP; simp only [h]; rfl
theorem drop_cons {b : List UInt8} {a : Nat} (h : a < b.length) : b.drop a = b[a] :: b.drop (a + 1) := List.drop_eq_getElem_cons h
theorem okB_readR {E : Env} {d : Nat} (h0 : E.prim 67 = some fun _ => p_readR d) (h1 : E.prim 85 = some fun _ => p_getR) : OkGB E F67 e_readR (gd (k_readR (d + 1)) r_readR) := by
  refine OkGB.code (fun _ => rfl) fun ⟨b, a, n⟩ S ⟨hn, hn16, ha, hb⟩ => ?_
  have fr : ∀ (T : Store) (kk nn : Int) (xx yy : AV) (bb : List UInt8) (ll : List Val) (i e : Int), S <+: T → rdS T xx = some (enc bb) → rdS T yy = some (enc ll) → topIds xx = [] → (∀ i, i ∈ topIds yy → S.length ≤ i) →
      Conv S T (.tup [.agg [.int .i64 kk, .int .i64 nn, xx, yy], .int .i64 i, .int .i64 e]) S (.tup [.agg (valL (.mk kk nn bb ll)), .int .i64 i, .int .i64 e]) := fun T kk nn xx yy bb ll i e hp hx hy hix hiy =>
    Conv.good hp (fun j hj => by simp only [topIds, topIdsL, hix, List.nil_append, List.append_nil] at hj; exact hiy j hj) (by
      have := rd_val T kk nn bb ll hx hy
      simp only [rdS, rdSL] at this ⊢
      simp only [rdS, rdSL, rd0, hx, hy, Option.bind_some, Option.map_some, valL, k_mk, n_mk, b_mk, l_mk])
  have fe : ∀ (T : Store) (e : Int), S <+: T → Conv S T (.tup [.agg [.int .i64 0, .int .i64 0, .nilS, .nilS], .int .i64 0, .int .i64 e]) S (.tup [.agg (valL nul), .int .i64 0, .int .i64 e]) := fun T e hp => fr T 0 0 _ _ [] [] 0 e hp rfl rfl rfl (fun i h => by simp [topIds] at h)
  have pr : ∀ L : List AObj, S <+: S ++ L := fun L => List.prefix_append _ _
  cases y1 : decide ((b.length : Int) ≤ (a : Int))
  rotate_left
  · have hal : a = b.length := by have := of_decide_eq_true y1; omega
    have hv : valueP n (b.drop a, 0) = (nul, ([], 10)) := by rw [hal, List.drop_length]; exact value_e (s := ([], 0)) (by decide)
    have hr := read_err hv (by decide)
    simp -dsimp only [go_sem, F67, e_readR, r_readR, y1, hr]
    exact fe _ _ (pr _)
  have hal : a < b.length := by have := of_decide_eq_false y1; omega
  have hx := drop_cons hal
  obtain ⟨c, hc⟩ : ∃ c, b[a] = c := ⟨_, rfl⟩
  rw [hc] at hx
  have hcl := c.toNat_lt
  have hia := ia_enc (sz := 1) .i64 hal rfl
  rw [hc] at hia
  have wc : IntKind.i64.wrap (c.toNat : Int) = (c.toNat : Int) := wrap64 (by omega) (by omega)
  have w1 : IntKind.i64.wrap ((a : Int) + 1) = ((a + 1 : Nat) : Int) := wrapS (by omega)
  have ht0 : (takeP (b.drop a, 0) 1) = ([c], (b.drop (a + 1), 0)) := by rw [hx]; exact take_cons c _
  have hh : ∀ P : Nat → Prop, P c.toNat → P (((takeP (b.drop a, 0) 1).1.headD 0).toNat) := fun P h => by rw [ht0]; exact h
  have he0 : (takeP (b.drop a, 0) 1).2.2 = 0 := by rw [ht0]
  have wl : IntKind.i64.wrap ((b.length : Int) - ((a + 1 : Nat) : Int)) = ((b.length - (a + 1) : Nat) : Int) := by rw [wrap64 (by omega) (by omega)]; omega
  have htl : (b.drop (a + 1)).length = b.length - (a + 1) := List.length_drop
  cases y2 : decide ((c.toNat : Int) = 1)
  rotate_left
  · have hv := value_1 (n := n) he0 (hh (· = 1) (by have := of_decide_eq_true y2; omega))
    rw [ht0] at hv
    cases y3 : decide ((b.length : Int) ≤ ((a + 1 : Nat) : Int))
    rotate_left
    · have : b.drop (a + 1) = [] := List.drop_eq_nil_of_le (by have := of_decide_eq_true y3; omega)
      rw [this, number_nil] at hv
      have hr := read_err hv (by decide)
      simp -dsimp only [go_sem, F67, e_readR, r_readR, y1, hia, wc, w1, y2, y3, hr]
      exact fe _ _ (pr _)
    have ha1 : a + 1 < b.length := by have := of_decide_eq_false y3; omega
    have hx1 := drop_cons ha1
    obtain ⟨e, he⟩ : ∃ e, b[a + 1] = e := ⟨_, rfl⟩
    rw [he] at hx1
    have hel := e.toNat_lt
    have hia1 := ia_enc (sz := 1) .i64 ha1 rfl
    rw [he] at hia1
    have we : IntKind.i64.wrap (e.toNat : Int) = (e.toNat : Int) := wrap64 (by omega) (by omega)
    have w2 : IntKind.i64.wrap (((a + 1 : Nat) : Int) + 1) = ((a + 1 + 1 : Nat) : Int) := wrapS (by omega)
    have wl2 : IntKind.i64.wrap ((b.length : Int) - ((a + 1 + 1 : Nat) : Int)) = ((b.length - (a + 1 + 1) : Nat) : Int) := by rw [wrap64 (by omega) (by omega)]; omega
    have hul : (b.drop (a + 1 + 1)).length = b.length - (a + 1 + 1) := List.length_drop
    rw [hx1, number_eq] at hv
    cases y4 : decide ((8 : Int) < (e.toNat : Int))
    rotate_left
    · rw [if_pos (by have := of_decide_eq_true y4; omega)] at hv
      have hr := read_err hv (by simp)
      simp -dsimp only [go_sem, F67, e_readR, r_readR, y1, hia, wc, w1, y2, y3, hia1, we, w2, y4, hr]
      exact fe _ _ (pr _)
    rw [if_neg (by have := of_decide_eq_false y4; omega)] at hv
    cases y5 : decide (((b.length - (a + 1 + 1) : Nat) : Int) < (e.toNat : Int))
    rotate_left
    · rw [if_pos (by have := of_decide_eq_true y5; rw [hul]; omega)] at hv
      have hr := read_err hv (by simp)
      simp -dsimp only [go_sem, F67, e_readR, r_readR, y1, hia, wc, w1, y2, y3, hia1, we, w2, y4, wl2, y5, hr]
      exact fe _ _ (pr _)
    have h5 := of_decide_eq_false y5
    rw [if_neg (by rw [hul]; omega)] at hv
    cases y6 : decide ((e.toNat : Int) = 0)
    rotate_left
    · rw [if_pos (by have := of_decide_eq_true y6; omega)] at hv
      have hr := read_ok hv
      rw [hul, show b.length - (b.length - (a + 1 + 1)) = a + 1 + 1 by omega] at hr
      simp -dsimp only [go_sem, F67, e_readR, r_readR, y1, hia, wc, w1, y2, y3, hia1, we, w2, y4, wl2, y5, y6, hr]
      exact fr _ _ _ _ _ [] [] _ _ (pr _) rfl rfl rfl (fun i h => by simp [topIds] at h)
    have h6 : e.toNat ≠ 0 := by have := of_decide_eq_false y6; omega
    rw [if_neg h6] at hv
    have w3 : IntKind.i64.wrap (((a + 1 + 1 : Nat) : Int) + (e.toNat : Int)) = ((a + 1 + 1 + e.toNat : Nat) : Int) := by rw [wrap64 (by omega) (by omega)]; omega
    have hsl : sliceA 1 (enc b) (some (.int .i64 ((a + 1 + 1 : Nat) : Int))) (some (.int .i64 ((a + 1 + 1 + e.toNat : Nat) : Int))) none = some (enc ((b.drop (a + 1 + 1)).take e.toNat)) := by
      have := sl_enc (α := UInt8) (sz := 1) (l := b) (i := a + 1 + 1) (j := a + 1 + 1 + e.toNat) (lo := some (.int .i64 ((a + 1 + 1 : Nat) : Int))) (hi := some (.int .i64 ((a + 1 + 1 + e.toNat : Nat) : Int))) rfl rfl rfl (by omega) (by omega)
      rwa [show a + 1 + 1 + e.toNat - (a + 1 + 1) = e.toNat by omega] at this
    have ha2 : a + 1 + 1 < b.length := by omega
    have hia2 := ia_enc (sz := 1) .i64 ha2 rfl
    have hhd : ((b.drop (a + 1 + 1)).take e.toNat).headD 0 = b[a + 1 + 1] := by
      rw [drop_cons ha2]
      cases hc : e.toNat with
      | zero => exact absurd hc h6
      | succ k => rfl
    have h00 : decide ((b[a + 1 + 1].toNat : Int) = 0) = decide (b[a + 1 + 1] = 0) := decide_eq_decide.2 ⟨fun h => UInt8.toNat_inj.1 (by simpa using h), fun h => by rw [h]; rfl⟩
    rw [hhd] at hv
    cases y7 : decide ((getP ((b.drop (a + 1 + 1)).take e.toNat)).2 = 0)
    · rw [if_pos (.inl (of_decide_eq_false y7))] at hv
      have hr := read_err hv (by simp)
      simp -dsimp only [go_sem, F67, e_readR, r_readR, y1, hia, wc, w1, y2, y3, hia1, we, w2, y4, wl2, y5, y6, w3, hsl, c_getR h1, y7, hr]
      exact fe _ _ (pr _)
    cases y8 : decide (b[a + 1 + 1] = 0)
    rotate_left
    · rw [if_pos (.inr (of_decide_eq_true y8))] at hv
      have hr := read_err hv (by simp)
      simp -dsimp only [go_sem, F67, e_readR, r_readR, y1, hia, wc, w1, y2, y3, hia1, we, w2, y4, wl2, y5, y6, w3, hsl, c_getR h1, y7, hia2, h00, y8, hr]
      exact fe _ _ (pr _)
    rw [if_neg (fun h => h.elim (fun h => h (of_decide_eq_true y7)) (fun h => of_decide_eq_false y8 h))] at hv
    have hr := read_ok hv
    rw [List.length_drop, hul, show b.length - (b.length - (a + 1 + 1) - e.toNat) = a + 1 + 1 + e.toNat by omega] at hr
    simp -dsimp only [go_sem, F67, e_readR, r_readR, y1, hia, wc, w1, y2, y3, hia1, we, w2, y4, wl2, y5, y6, w3, hsl, c_getR h1, y7, hia2, h00, y8, hr]
    exact fr _ _ _ _ _ [] [] _ _ (pr _) rfl rfl rfl (fun i h => by simp [topIds] at h)
  have n2 := of_decide_eq_false y2
  cases y3 : decide ((c.toNat : Int) = 2)
  rotate_left
  · have hv := value_2 (n := n) he0 (hh (· = 2) (by have := of_decide_eq_true y3; omega))
    rw [ht0] at hv
    simp only [countP_eq] at hv
    cases y4 : decide (((b.length - (a + 1) : Nat) : Int) < 3)
    rotate_left
    · rw [if_pos (by have := of_decide_eq_true y4; rw [htl]; omega)] at hv
      rw [take_err (s := (b.drop (a + 1), 10)) (by simp)] at hv
      have hr := read_err hv (by simp)
      simp -dsimp only [go_sem, F67, e_readR, r_readR, y1, hia, wc, w1, y2, y3, wl, y4, hr]
      exact fe _ _ (pr _)
    have h4 := of_decide_eq_false y4
    rw [if_neg (by rw [htl]; omega)] at hv
    have w3 : IntKind.i64.wrap (((a + 1 : Nat) : Int) + 3) = ((a + 1 + 3 : Nat) : Int) := by rw [wrap64 (by omega) (by omega)]; omega
    have hsl : sliceA 1 (enc b) (some (.int .i64 ((a + 1 : Nat) : Int))) (some (.int .i64 ((a + 1 + 3 : Nat) : Int))) none = some (enc ((b.drop (a + 1)).take 3)) := by
      have := sl_enc (α := UInt8) (sz := 1) (l := b) (i := a + 1) (j := a + 1 + 3) (lo := some (.int .i64 ((a + 1 : Nat) : Int))) (hi := some (.int .i64 ((a + 1 + 3 : Nat) : Int))) rfl rfl rfl (by omega) (by omega)
      rwa [show a + 1 + 3 - (a + 1) = 3 by omega] at this
    have hl3 : ((b.drop (a + 1)).take 3).length = 3 := by rw [List.length_take, htl]; omega
    have hg := get_small (y := (b.drop (a + 1)).take 3) (by omega) (by omega)
    obtain ⟨m, hm⟩ : ∃ m, ofBE ((b.drop (a + 1)).take 3) = m := ⟨_, rfl⟩
    have hml : m < 16777216 := by
      have := ofBE_lt ((b.drop (a + 1)).take 3)
      rw [hl3, hm] at this; have := p3; omega
    rw [hm] at hg
    simp only [hg, Int.toNat_natCast, List.drop_drop] at hv
    have hul : (b.drop (a + 1 + 3)).length = b.length - (a + 1 + 3) := List.length_drop
    have wl2 : IntKind.i64.wrap ((b.length : Int) - ((a + 1 + 3 : Nat) : Int)) = ((b.length - (a + 1 + 3) : Nat) : Int) := by rw [wrap64 (by omega) (by omega)]; omega
    rw [takeP_eq] at hv
    cases y5 : decide (((b.length - (a + 1 + 3) : Nat) : Int) < (m : Int))
    rotate_left
    · rw [if_pos (by have := of_decide_eq_true y5; rw [hul]; omega)] at hv
      have hr := read_err hv (by simp)
      simp -dsimp only [go_sem, F67, e_readR, r_readR, y1, hia, wc, w1, y2, y3, wl, y4, w3, hsl, c_getR h1, hg, wl2, y5, hr]
      exact fe _ _ (pr _)
    have h5 := of_decide_eq_false y5
    rw [if_neg (by rw [hul]; omega)] at hv
    have w4 : IntKind.i64.wrap (((a + 1 + 3 : Nat) : Int) + (m : Int)) = ((a + 1 + 3 + m : Nat) : Int) := by rw [wrap64 (by omega) (by omega)]; omega
    have hsl2 : sliceA 1 (enc b) (some (.int .i64 ((a + 1 + 3 : Nat) : Int))) (some (.int .i64 ((a + 1 + 3 + m : Nat) : Int))) none = some (enc ((b.drop (a + 1 + 3)).take m)) := by
      have := sl_enc (α := UInt8) (sz := 1) (l := b) (i := a + 1 + 3) (j := a + 1 + 3 + m) (lo := some (.int .i64 ((a + 1 + 3 : Nat) : Int))) (hi := some (.int .i64 ((a + 1 + 3 + m : Nat) : Int))) rfl rfl rfl (by omega) (by omega)
      rwa [show a + 1 + 3 + m - (a + 1 + 3) = m by omega] at this
    have hr := read_ok hv
    rw [List.length_drop, hul, show b.length - (b.length - (a + 1 + 3) - m) = a + 1 + 3 + m by omega] at hr
    simp -dsimp only [go_sem, F67, e_readR, r_readR, y1, hia, wc, w1, y2, y3, wl, y4, w3, hsl, c_getR h1, hg, wl2, y5, w4, hsl2, hr]
    exact fr _ _ _ _ _ _ [] _ _ (pr _) (enc_rdS _ _) rfl (enc_top _) (fun i h => by simp [topIds] at h)
  have n3 := of_decide_eq_false y3
  cases y4 : decide ((c.toNat : Int) = 3)
  · have n4 := of_decide_eq_false y4
    have hv := value_x (n := n) he0 (hh (· ≠ 1) (by omega)) (hh (· ≠ 2) (by omega)) (hh (· ≠ 3) (by omega))
    rw [ht0] at hv
    have hr := read_err hv (fail_ne _)
    rw [failP_0] at hr
    simp -dsimp only [go_sem, F67, e_readR, r_readR, y1, hia, wc, w1, y2, y3, y4, hr]
    exact fe _ _ (pr _)
  have hv := fun (cc : Nat × Rdr) (s1 : Rdr) hcc hs1 => value_3 (n := n) (c := cc) (s1 := s1) he0 (hh (· = 3) (by have := of_decide_eq_true y4; omega)) hcc hs1
  rw [ht0] at hv
  simp only [countP_eq] at hv
  cases y5 : decide (((b.length - (a + 1) : Nat) : Int) < 2)
  rotate_left
  · rw [if_pos (by have := of_decide_eq_true y5; rw [htl]; omega)] at hv
    have hv := hv _ _ rfl rfl
    have hz : itemsP (valueP (n - 1)) 0 [] (if 4096 < 0 ∨ n = 0 then failP (b.drop (a + 1), 10) else (b.drop (a + 1), 10)) = ([], (b.drop (a + 1), 10)) := by
      split
      · rfl
      · rfl
    simp only [hz] at hv
    have hr := read_err hv (by simp)
    simp -dsimp only [go_sem, F67, e_readR, r_readR, y1, hia, wc, w1, y2, y3, y4, wl, y5, hr]
    exact fe _ _ (pr _)
  have h5 := of_decide_eq_false y5
  rw [if_neg (by rw [htl]; omega)] at hv
  have w3 : IntKind.i64.wrap (((a + 1 : Nat) : Int) + 2) = ((a + 1 + 2 : Nat) : Int) := by rw [wrap64 (by omega) (by omega)]; omega
  have hsl : sliceA 1 (enc b) (some (.int .i64 ((a + 1 : Nat) : Int))) (some (.int .i64 ((a + 1 + 2 : Nat) : Int))) none = some (enc ((b.drop (a + 1)).take 2)) := by
    have := sl_enc (α := UInt8) (sz := 1) (l := b) (i := a + 1) (j := a + 1 + 2) (lo := some (.int .i64 ((a + 1 : Nat) : Int))) (hi := some (.int .i64 ((a + 1 + 2 : Nat) : Int))) rfl rfl rfl (by omega) (by omega)
    rwa [show a + 1 + 2 - (a + 1) = 2 by omega] at this
  have hl2 : ((b.drop (a + 1)).take 2).length = 2 := by rw [List.length_take, htl]; omega
  have hg := get_small (y := (b.drop (a + 1)).take 2) (by omega) (by omega)
  obtain ⟨m, hm⟩ : ∃ m, ofBE ((b.drop (a + 1)).take 2) = m := ⟨_, rfl⟩
  have hml : m < 65536 := by
    have := ofBE_lt ((b.drop (a + 1)).take 2)
    rw [hl2, hm] at this; have := p2; omega
  rw [hm] at hg
  simp only [hg, Int.toNat_natCast, List.drop_drop] at hv
  have bad : (4096 < m ∨ n = 0) → readRP b a n = (nul, 0, 11) := fun h => by
    have hv := hv _ _ rfl rfl
    simp only [if_pos h, failP_0] at hv
    rw [items_stop _ _ _ (s := (b.drop (a + 1 + 2), 11)) (by simp)] at hv
    exact read_err hv (by simp)
  cases y6 : decide ((4096 : Int) < (m : Int))
  rotate_left
  · have hr := bad (.inl (by have := of_decide_eq_true y6; omega))
    simp -dsimp only [go_sem, F67, e_readR, r_readR, y1, hia, wc, w1, y2, y3, y4, wl, y5, w3, hsl, c_getR h1, hg, y6, hr]
    exact fe _ _ (pr _)
  cases y7 : decide ((n : Int) = 0)
  rotate_left
  · have hr := bad (.inr (by have := of_decide_eq_true y7; omega))
    simp -dsimp only [go_sem, F67, e_readR, r_readR, y1, hia, wc, w1, y2, y3, y4, wl, y5, w3, hsl, c_getR h1, hg, y6, y7, hr]
    exact fe _ _ (pr _)
  have h6 := of_decide_eq_false y6
  have h7 := of_decide_eq_false y7
  have hv := hv _ _ rfl rfl
  simp only [if_neg (show ¬ (4096 < m ∨ n = 0) by omega)] at hv
  have wn : IntKind.i64.wrap ((n : Int) - 1) = ((n - 1 : Nat) : Int) := by rw [wrap64 (by omega) (by omega)]; omega
  simp -dsimp only [go_sem, F67, e_readR, r_readR, y1, hia, wc, w1, y2, y3, y4, wl, y5, w3, hsl, c_getR h1, hg, y6, y7]
  refine Ex.count (n := m) (i0 := 0) (fun i g T => g 0 = enc b ∧ g 2 = .int .i64 n ∧ g 6 = .ptr S.length 0 ∧ g 15 = .int .i64 m ∧ g 17 = .ptr (S.length + 1) 0 ∧ ∃ (p : Nat) (acc : List Val) (y : AV) (R : Store), g 1 = .int .i64 p ∧ p ≤ b.length ∧
    T = S ++ (.cells [.int .i64 0, .int .i64 0, .nilS, .nilS] :: .cells [.int .i64 3, .int .i64 0, .nilS, y] :: R) ∧ OwnR (S.length + 2) R y acc ∧ acc.length = i ∧ itemsP (valueP (n - 1)) (m - i) acc (b.drop p, 0) = itemsP (valueP (n - 1)) m [] (b.drop (a + 1 + 2), 0))
    (by decide) (by omega) rfl (by omega) ⟨rfl, rfl, rfl, rfl, rfl, a + 1 + 2, [], .nilS, [], rfl, by omega, rfl, .inl ⟨rfl, rfl⟩, rfl, rfl⟩ ?_ ?_ ?_
  · rintro i g T hi gi ⟨g0, g2, g6, g15, g17, p, acc, y, R, g1, hp, rfl, hR, hal, hit⟩
    simp -dsimp only [go_sem, gi, g15]
  · rintro i g T hi gi ⟨g0, g2, g6, g15, g17, p, acc, y, R, g1, hp, rfl, hR, hal, hit⟩
    have cr := fun (T : Store) (K : AV → Store → Prop) (q : Dm K) => c_readR h0 b p (n - 1) ⟨by omega, by omega, hp, hb⟩ (S := T) (K := K) (d := q)
    rw [show m - i = (m - (i + 1)) + 1 by omega, itemsP, if_pos rfl] at hit
    obtain ⟨r, hr⟩ : ∃ r, valueP (n - 1) (b.drop p, 0) = r := ⟨_, rfl⟩
    rw [hr] at hit
    cases ye : decide (r.2.2 = 0)
    · have ye' := of_decide_eq_false ye
      have hrd := read_err hr ye'
      rw [items_stop _ _ _ ye'] at hit
      rw [← hit] at hv
      have hres := read_err hv ye'
      simp -dsimp only [go_sem, gi, g0, g2, g6, g15, g17, g1, wn, cr, hrd, ye, F67, r_readR, hres]
      exact fe _ _ (pr _)
    · have ye' := of_decide_eq_true ye
      obtain ⟨z, hz⟩ := value_suffix (n - 1) (b.drop p, 0)
      rw [hr] at hz
      simp only [List.drop_drop] at hz
      have hr2 : valueP (n - 1) (b.drop p, 0) = (r.1, (r.2.1, 0)) := by rw [hr]; exact Prod.ext rfl (Prod.ext rfl ye')
      have hrd := read_ok hr2
      have hlen : r.2.1.length ≤ b.length := by rw [hz, List.length_drop]; omega
      have hdr : b.drop (b.length - r.2.1.length) = r.2.1 := by
        rw [hz, List.length_drop]
        by_cases hpz : p + z ≤ b.length
        · rw [show b.length - (b.length - (p + z)) = p + z by omega]
        · rw [List.drop_eq_nil_of_le (by omega), List.drop_eq_nil_of_le (by omega)]
      simp -dsimp only [go_sem, gi, g0, g2, g6, g15, g17, g1, wn, cr, hrd]
      have hO : OwnL (S ++ [.cells [.int .i64 0, .int .i64 0, .nilS, .nilS], .cells [.int .i64 3, .int .i64 0, .nilS, y]]) _ y acc := OwnR.own (R := R ++ [.cells (valL r.1)]) (by simpa using hR.more _)
      simp only [List.append_assoc, List.cons_append, List.nil_append] at hO
      refine OwnL.app hO rfl (el_enc _ rfl) (by simp only [List.length_singleton]; omega) fun y' T' hO' hK hi' => ?_
      obtain ⟨R', rfl⟩ := hO'.1
      have hR' := hO'.ownR
      have yc := hO'.cells1
      simp only [List.append_assoc, List.cons_append, List.nil_append]
      simp -dsimp only [go_sem, gi, g0, g2, g6, g15, g17, g1, yc]
      refine ⟨b.length - r.2.1.length, acc ++ [r.1], y', R', rfl, by omega, rfl, by simpa using hR', by simp [hal], ?_⟩
      rw [hdr, ← hit]
      exact congrArg (itemsP (valueP (n - 1)) (m - (i + 1)) (acc ++ [r.1])) (Prod.ext rfl ye'.symm)
  · rintro g T gi ⟨g0, g2, g6, g15, g17, p, acc, y, R, g1, hp, rfl, hR, hal, hit⟩
    rw [Nat.sub_self, itemsP] at hit
    rw [← hit] at hv
    have hres := read_ok hv
    rw [List.length_drop, show b.length - (b.length - p) = p by omega] at hres
    have hO : OwnL (S ++ [.cells [.int .i64 3, .int .i64 0, .nilS, y], .cells [.int .i64 3, .int .i64 0, .nilS, y]]) _ y acc := OwnR.own (R := R) (by simpa using hR)
    have h1 := hO.ids
    have h2 := hO.rd
    simp only [List.append_assoc, List.cons_append, List.nil_append] at h2
    simp -dsimp only [go_sem, g0, g2, g6, g15, g17, g1, F67, r_readR, hres]
    exact fr _ _ _ _ _ [] _ _ _ (pr _) rfl h2 rfl (fun i h => by have := h1 i h; simp at this; omega)
theorem ok_decodeR {E : Env} (hp : E.prim 49 = none) (hf : E.F 49 = some F49) (h0 : E.prim 67 = some fun _ => p_readR 17) : OkG E 49 e_decodeR (gd k_decodeR r_decodeR) := by
  refine OkG.code hp hf (fun _ => rfl) fun b S _ => ?_
  have fnul : ∀ (T : Store) (e : Int), Conv S (S ++ T) (.tup [.agg [.int .i64 0, .int .i64 0, .nilS, .nilS], .int .i64 e]) S (.tup [.agg (valL nul), .int .i64 e]) := fun T e =>
    conv_pair (List.prefix_append _ _) (fun i h => by simp [topIds, topIdsL] at h) (rd_val _ _ _ [] [] rfl rfl)
  cases y1 : decide ((1048576 : Int) < (b.length : Int))
  rotate_left
  · have hd : decodeP b = (nul, 3) := if_pos (by have := of_decide_eq_true y1; omega)
    simp -dsimp only [go_sem, F49, e_decodeR, r_decodeR, y1, hd]
    exact fnul _ _
  · have y1' := of_decide_eq_false y1
    obtain ⟨r, hr⟩ : ∃ r, valueP 16 (b, 0) = r := ⟨_, rfl⟩
    have hr0 : valueP 16 (b.drop 0, 0) = r := hr
    have hd : decodeP b = (if (if r.2.2 = 0 ∧ 0 < r.2.1.length then 12 else r.2.2) ≠ 0 then (nul, if r.2.2 = 0 ∧ 0 < r.2.1.length then 12 else r.2.2) else (r.1, 0)) := by
      unfold decodeP; rw [if_neg (by omega)]; simp only [hr]
    have cr : ∀ (T : Store) (K : AV → Store → Prop) (q : Dm K), SpD E 67 [enc b, .int .i64 0, .int .i64 16] T K q = K (.tup [.agg (valL (readRP b 0 16).1), .int .i64 (readRP b 0 16).2.1, .int .i64 (readRP b 0 16).2.2]) T := fun T K q => c_readR h0 b 0 16 ⟨by omega, by omega, by omega, by omega⟩
    cases ye : decide (r.2.2 = 0)
    · have ye' := of_decide_eq_false ye
      have hin : (if r.2.2 = 0 ∧ 0 < r.2.1.length then (12 : Int) else r.2.2) = r.2.2 := if_neg fun h => ye' h.1
      rw [hin, if_pos ye'] at hd
      have hrd := read_err hr0 ye'
      simp -dsimp only [go_sem, F49, e_decodeR, r_decodeR, y1, cr, hrd, ye, hd]
      exact fnul _ _
    · have ye' := of_decide_eq_true ye
      obtain ⟨z, hz⟩ := value_suffix 16 (b, 0)
      rw [hr] at hz
      simp only at hz
      have hr2 : valueP 16 (b.drop 0, 0) = (r.1, (r.2.1, 0)) := by rw [hr0]; exact Prod.ext rfl (Prod.ext rfl ye')
      have hrd := read_ok hr2
      have hlen : r.2.1.length ≤ b.length := by rw [hz, List.length_drop]; omega
      cases yl : decide (((b.length - r.2.1.length : Nat) : Int) < (b.length : Int))
      · have hin : (if r.2.2 = 0 ∧ 0 < r.2.1.length then (12 : Int) else r.2.2) = r.2.2 := if_neg fun h => by have := of_decide_eq_false yl; omega
        rw [hin, if_neg (fun h => h ye')] at hd
        simp -dsimp only [go_sem, F49, e_decodeR, r_decodeR, y1, cr, hrd, yl, hd]
        exact conv_pair (List.prefix_append _ _) (fun i h => by simp [topIds, topIdsL, enc_top] at h) (rd_val _ _ _ _ _ (enc_rdS _ _) (enc_rdS _ _))
      · have hc : r.2.2 = 0 ∧ 0 < r.2.1.length := ⟨ye', by have := of_decide_eq_true yl; omega⟩
        have hin : (if r.2.2 = 0 ∧ 0 < r.2.1.length then (12 : Int) else r.2.2) = 12 := if_pos hc
        rw [hin, if_pos (by decide)] at hd
        simp -dsimp only [go_sem, F49, e_decodeR, r_decodeR, y1, cr, hrd, yl, hd]
        exact fnul _ _
end Go.Proofs.YtaajlbbooneiiaaDoor.Avm
set_option linter.unusedVariables false
set_option linter.unusedSimpArgs false
set_option maxRecDepth 10000
namespace Go.Proofs.YtaajlbbooneiiaaDoor.Avm

theorem wrap_in {n : Int} (h : -9223372036854775808 ≤ n ∧ n ≤ 9223372036854775807) : IntKind.i64.wrap n = n := by
  simp [IntKind.wrap, IntKind.min, IntKind.max, IntKind.signed, IntKind.bits]; omega
theorem asBytes_cl : ∀ l : List UInt8, asBytes (cl l) = some l
  | [] => rfl
  | a :: l => by
    have ih := asBytes_cl l
    rw [cl_cons]
    simp only [c_u8, List.singleton_append, asBytes, ih]
    have := a.toNat_lt
    rw [if_pos (by omega)]
    simp
end Go.Proofs.YtaajlbbooneiiaaDoor.Avm
set_option linter.unusedVariables false
set_option linter.unusedSimpArgs false
set_option maxRecDepth 10000
namespace Go.Proofs.YtaajlbbooneiiaaDoor.Avm

theorem hd_name {l : List Mem} (h : 0 < l.length) : (l.map (·.name)).headD [] = l[0].name := by
  cases l with
  | nil => simp at h
  | cons a l => simp
theorem begins_eq (m : Mani) : beginsP m = beginsRP m := by
  unfold beginsP beginsRP
  cases y1 : mayP m
  · rfl
  have hq := of_decide_eq_true y1
  have hr := hq.2.2.2.2.2.2.2.2.1
  have key : m.members = [⟨m.by', 4⟩] ↔ ((m.members.length : Nat) : Int) = 1 ∧ (m.members.map (·.name)).headD [] = m.by' := by
    have h4 := ((right_iff m.members).1 hr).2.2.2
    constructor
    · intro e; rw [e]; simp
    · rintro ⟨e1, e2⟩
      match hm : m.members with
      | [] => rw [hm] at e1; simp at e1
      | [x] =>
        rw [hm] at e2 h4
        have e2 : x.name = m.by' := e2
        have e4 : x.role = 4 := Classical.byContradiction fun q => h4 (by simp [ownersRP, q])
        rw [List.cons.injEq]; exact ⟨mem_ext.2 ⟨e2, e4⟩, rfl⟩
      | x :: y :: l => rw [hm] at e1; simp at e1; omega
  have k2 : decide (m.members = [⟨m.by', 4⟩]) = (decide (((m.members.length : Nat) : Int) = 1) && decide ((m.members.map (·.name)).headD [] = m.by')) := by
    rw [← Bool.decide_and]; exact decide_eq_decide.2 key
  rw [k2]
  cases decide (m.seq = 1) <;> cases decide (((m.members.length : Nat) : Int) = 1) <;> cases decide ((m.members.map (·.name)).headD [] = m.by') <;> cases decide (m.cut = 0) <;> cases m.gone <;> rfl
theorem follows_eq (w : Mani) (x : List UInt8) (m : Mani) : followsP w x m = followsRP w x m := by
  unfold followsP followsRP
  cases y1 : mayP w
  · rfl
  cases y2 : mayP m
  · rfl
  have hq := of_decide_eq_true y1
  have hr := hq.2.2.2.2.2.2.2.2.1
  have k1 : decide (m.seq - 1 = w.seq) = decide (m.seq = w.seq + 1) := decide_eq_decide.2 (by omega)
  have h4 := of_ge hr m.by'
  have k2 : (if ofP w.members m.by' < 4 then (40 : Int) else 0) = if (!decide (ofP w.members m.by' = 4)) = true then 40 else 0 := by
    by_cases q : ofP w.members m.by' = 4
    · rw [if_neg (by omega), decide_eq_true q]; rfl
    · rw [if_pos (by omega), decide_eq_false q]; rfl
  rw [k1, k2, step_eq]
  rcases stepRP w.members m.members m.by' with ⟨a, c⟩
  simp only
  cases decide (m.seq = w.seq + 1) <;> cases m.gone <;> cases decide (w.members = m.members) <;> cases decide (m.parent = w.parent) <;> cases decide (m.cut = w.cut) <;> cases decide (m.cut = m.seq) <;> cases a <;> rfl
theorem fewM_long {m : Mani} (h : fewM m = true) : longM m := by
  simp only [fewM, Bool.and_eq_true, List.all_eq_true, decide_eq_true_eq] at h
  obtain ⟨h1, h2, h3, h4, h5, h6⟩ := h
  exact ⟨by omega, by omega, by omega, ⟨by omega, fun x hx => by have := h1 x hx; omega⟩, by omega⟩
end Go.Proofs.YtaajlbbooneiiaaDoor.Avm
