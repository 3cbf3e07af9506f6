/- Manifests as values: what the functions of their texts answer; their texts. Specs: texts of manifests read; the document's texts. Specs: the document's texts of manifests; the law of texts. The law of texts. The functions of the seat, and its example. -/
import Derived.Test.YtaajlbbooneiiaaZ12
import Derived.Test.YtaajlbbooneiiaaZ7
import Derived.Test.YtaajlbbooneiiaaZ9
set_option linter.unusedVariables false
set_option linter.unusedSimpArgs false
set_option maxRecDepth 10000
namespace Go.Proofs.Ytaajlbbooneiiaa.Avm

def rawV (b : List UInt8) : Val := .mk 2 0 b []
def numV (n : Int) : Val := .mk 1 n [] []
def listV (l : List Val) : Val := .mk 3 0 [] l
def memV (x : Mem) : Val := listV [rawV x.name, numV x.role]
def markM : List UInt8 := [109, 97, 110, 105, 102, 101, 115, 116]
def goneN (m : Mani) : Int := if m.gone = true then 1 else 0
def maniVs (m : Mani) : List Val := [rawV markM, rawV m.folder, numV m.seq, rawV m.prev, rawV m.parent, listV (m.members.map memV), numV m.cut, numV (goneN m), rawV m.by']
def maniV (m : Mani) : Val := listV (maniVs m)
def textP (m : Mani) : List UInt8 × Int := if mayP m = true then (bytesA (maniV m), 0) else ([], 2)
def ks9 : List Int := [2, 2, 1, 2, 2, 3, 1, 1, 2]
def ks2 : List Int := [2, 1]
def mani0 : Mani := ⟨[], 0, [], [], [], 0, false, []⟩
def at0 (l : List Val) (i : Nat) : Val := l.getD i nul
def memOf (x : Val) : Mem := ⟨(at0 x.list 0).bytes, (at0 x.list 1).num⟩
def memsOf : List Val → Option (List Mem)
  | [] => some []
  | x :: l => if (fieldsP x ks2).2 = true then (memsOf l).map (memOf x :: ·) else none
def maniOf (l : List Val) (ms : List Mem) : Mani := ⟨(at0 l 1).bytes, (at0 l 2).num, (at0 l 3).bytes, (at0 l 4).bytes, ms, (at0 l 6).num, decide ((at0 l 7).num = 1), (at0 l 8).bytes⟩
def readD (d : Val × Int) : Mani × Int :=
  if d.2 ≠ 0 then (mani0, d.2)
  else if (fieldsP d.1 ks9).2 = false ∨ (at0 d.1.list 0).bytes ≠ markM then (mani0, 11)
  else (memsOf (at0 d.1.list 5).list).elim (mani0, 11) fun ms => if mayP (maniOf d.1.list ms) = false ∨ 1 < (at0 d.1.list 7).num then (mani0, 11) else (maniOf d.1.list ms, 0)
def readM (b : List UInt8) : Mani × Int := readD (decodeP b)
deriving instance DecidableEq for Mani

def e_word28 : Str → List AV := fun s => [.str s]
def k_word28 : Str → Prop := fun s => s.length ≤ 140737488355328
def r_word28 : Str → AV := fun s => .agg (valL (rawV s))
noncomputable def p_word28 : List AV → Store → Option (AV × Store) := primG e_word28 (gd k_word28 r_word28)
theorem i_word28 : Inj e_word28 := by
  intro s1 s2 h
  simpa only [e_word28, enc_inj, rec_inj, AV.str.injEq, AV.int.injEq, AV.bool.injEq, AV.agg.injEq, AV.ptr.injEq, AV.fn.injEq, List.cons.injEq, and_true, true_and, Prod.mk.injEq] using h
theorem c_word28 {E : Env} (h : E.prim 19 = some fun _ => p_word28) (s : Str) (hk : s.length ≤ 140737488355328) {S : Store} {K : AV → Store → Prop} {d : Dm K} : SpD E 19 [.str s] S K d = K (.agg (valL (rawV s))) S := by
  have := callG h i_word28 (a := s) (S := S) (args := [.str s]) (K := K) (d := d) (by simp only [e_word28, rdSL_cons, rdSL_nil, rdS_int, rdS_bool, rdS_str, enc_rdS, rdS_fn0, rdS_csl0, rdS_rec, rdSL_rec, rdS_agg, rdS_tup, Option.bind_some, Option.map_some]) hk
  simpa only [r_word28, topL_cons, topL_nil, top_int, top_bool, top_str, top_csl, enc_top, top_agg, top_rec, top_fn, List.nil_append, killL_nil] using this
theorem c_word28' {E : Env} (h : E.prim 19 = some fun _ => p_word28) {S : Store} {x0 : AV} {s : Str} (h0 : rdS S x0 = some (.str s)) (hk : s.length ≤ 140737488355328) {K : AV → Store → Prop} {d : Dm K} : SpD E 19 [x0] S K d = K (.agg (valL (rawV s))) (killL (topIdsL [x0]) S) :=
  callG h i_word28 (a := s) (by simp only [e_word28, rdSL, h0, Option.bind_some, Option.map_some]) hk
def e_bit28 : Bool → List AV := fun b => [.bool b]
def k_bit28 : Bool → Prop := fun b => True
def r_bit28 : Bool → AV := fun b => .int .i64 (if b = true then 1 else 0)
noncomputable def p_bit28 : List AV → Store → Option (AV × Store) := primS e_bit28 (gd k_bit28 r_bit28)
theorem i_bit28 : Inj e_bit28 := by
  intro b1 b2 h
  simpa only [e_bit28, enc_inj, rec_inj, AV.str.injEq, AV.int.injEq, AV.bool.injEq, AV.agg.injEq, AV.ptr.injEq, AV.fn.injEq, List.cons.injEq, and_true, true_and, Prod.mk.injEq] using h
theorem c_bit28 {E : Env} (h : E.prim 23 = some fun _ => p_bit28) (b : Bool) {S : Store} {K : AV → Store → Prop} {d : Dm K} : SpD E 23 [.bool b] S K d = K (.int .i64 (if b = true then 1 else 0)) S :=
  callS h i_bit28 (a := b) (by simp only [e_bit28, rdSL_cons, rdSL_nil, rdS_int, rdS_bool, rdS_str, enc_rdS, rdS_fn0, rdS_csl0, rdS_rec, rdSL_rec, rdS_agg, rdS_tup, Option.bind_some, Option.map_some]) trivial
theorem c_bit28' {E : Env} (h : E.prim 23 = some fun _ => p_bit28) {S : Store} {x0 : AV} {b : Bool} (h0 : rdS S x0 = some (.bool b)) {K : AV → Store → Prop} {d : Dm K} : SpD E 23 [x0] S K d = K (.int .i64 (if b = true then 1 else 0)) S :=
  callS h i_bit28 (a := b) (by simp only [e_bit28, rdSL, h0, Option.bind_some, Option.map_some]) trivial
def e_text28 : Mani → List AV := fun m => [.agg (maniL m)]
def k_text28 : Mani → Prop := fun m => longM m
def r_text28 : Mani → AV := fun m => .tup [enc (textP m).1, .int .i64 (textP m).2]
noncomputable def p_text28 : List AV → Store → Option (AV × Store) := primG e_text28 (gd k_text28 r_text28)
theorem i_text28 : Inj e_text28 := by
  intro m1 m2 h
  simpa only [e_text28, enc_inj, rec_inj, AV.str.injEq, AV.int.injEq, AV.bool.injEq, AV.agg.injEq, AV.ptr.injEq, AV.fn.injEq, List.cons.injEq, and_true, true_and, Prod.mk.injEq, Mani.ext_iff, and_assoc] using h
theorem c_text28 {E : Env} (h : E.prim 7 = some fun _ => p_text28) (m : Mani) (hk : longM m) {S : Store} {K : AV → Store → Prop} {d : Dm K} : SpD E 7 [.agg (maniL m)] S K d = K (.tup [enc (textP m).1, .int .i64 (textP m).2]) S := by
  have := callG h i_text28 (a := m) (S := S) (args := [.agg (maniL m)]) (K := K) (d := d) (by simp only [e_text28, rdSL_cons, rdSL_nil, rdS_int, rdS_bool, rdS_str, enc_rdS, rdS_fn0, rdS_csl0, rdS_rec, rdSL_rec, rdS_agg, rdS_tup, Option.bind_some, Option.map_some]) hk
  simpa only [r_text28, topL_cons, topL_nil, top_int, top_bool, top_str, top_csl, enc_top, top_agg, top_rec, top_fn, List.nil_append, killL_nil] using this
theorem c_text28' {E : Env} (h : E.prim 7 = some fun _ => p_text28) {S : Store} {x0 : AV} {m : Mani} (h0 : rdS S x0 = some (.agg (maniL m))) (hk : longM m) {K : AV → Store → Prop} {d : Dm K} : SpD E 7 [x0] S K d = K (.tup [enc (textP m).1, .int .i64 (textP m).2]) (killL (topIdsL [x0]) S) :=
  callG h i_text28 (a := m) (by simp only [e_text28, rdSL, h0, Option.bind_some, Option.map_some]) hk
def e_read28 : List UInt8 → List AV := fun b => [enc b]
def k_read28 : List UInt8 → Prop := fun b => True
def r_read28 : List UInt8 → AV := fun b => .tup [.agg (maniL (readM b).1), .int .i64 (readM b).2]
noncomputable def p_read28 : List AV → Store → Option (AV × Store) := primG e_read28 (gd k_read28 r_read28)
theorem i_read28 : Inj e_read28 := by
  intro b1 b2 h
  simpa only [e_read28, enc_inj, rec_inj, AV.str.injEq, AV.int.injEq, AV.bool.injEq, AV.agg.injEq, AV.ptr.injEq, AV.fn.injEq, List.cons.injEq, and_true, true_and, Prod.mk.injEq] using h
theorem c_read28 {E : Env} (h : E.prim 10 = some fun _ => p_read28) (b : List UInt8) {S : Store} {K : AV → Store → Prop} {d : Dm K} : SpD E 10 [enc b] S K d = K (.tup [.agg (maniL (readM b).1), .int .i64 (readM b).2]) S := by
  have := callG h i_read28 (a := b) (S := S) (args := [enc b]) (K := K) (d := d) (by simp only [e_read28, rdSL_cons, rdSL_nil, rdS_int, rdS_bool, rdS_str, enc_rdS, rdS_fn0, rdS_csl0, rdS_rec, rdSL_rec, rdS_agg, rdS_tup, Option.bind_some, Option.map_some]) trivial
  simpa only [r_read28, topL_cons, topL_nil, top_int, top_bool, top_str, top_csl, enc_top, top_agg, top_rec, top_fn, List.nil_append, killL_nil] using this
theorem c_read28' {E : Env} (h : E.prim 10 = some fun _ => p_read28) {S : Store} {x0 : AV} {b : List UInt8} (h0 : rdS S x0 = some (enc b)) {K : AV → Store → Prop} {d : Dm K} : SpD E 10 [x0] S K d = K (.tup [.agg (maniL (readM b).1), .int .i64 (readM b).2]) (killL (topIdsL [x0]) S) :=
  callG h i_read28 (a := b) (by simp only [e_read28, rdSL, h0, Option.bind_some, Option.map_some]) trivial
def e_textR28 : Mani → List AV := fun m => [.agg (maniL m)]
def k_textR28 : Mani → Prop := fun m => mayP m = true
def r_textR28 : Mani → AV := fun m => enc (bytesA (maniV m))
noncomputable def p_textR28 : List AV → Store → Option (AV × Store) := primH e_textR28 (gd k_textR28 r_textR28)
theorem i_textR28 : Inj e_textR28 := by
  intro m1 m2 h
  simpa only [e_textR28, enc_inj, rec_inj, AV.str.injEq, AV.int.injEq, AV.bool.injEq, AV.agg.injEq, AV.ptr.injEq, AV.fn.injEq, List.cons.injEq, and_true, true_and, Prod.mk.injEq, Mani.ext_iff, and_assoc] using h
theorem c_textR28 {E : Env} (h : E.prim 12 = some fun _ => p_textR28) (m : Mani) (hk : mayP m = true) {S : Store} {K : AV → Store → Prop} {d : Dm K} : SpD E 12 [.agg (maniL m)] S K d = K (enc (bytesA (maniV m))) S := by
  have := callH h i_textR28 (a := m) (S := S) (args := [.agg (maniL m)]) (K := K) (d := d) (by simp only [e_textR28, rdSL_cons, rdSL_nil, rdS_int, rdS_bool, rdS_str, enc_rdS, rdS_fn0, rdS_csl0, rdS_rec, rdSL_rec, rdS_agg, rdS_tup, Option.bind_some, Option.map_some]) hk
  simpa only [r_textR28, topL_cons, topL_nil, top_int, top_bool, top_str, top_csl, enc_top, top_agg, top_rec, top_fn, List.nil_append, killH_nil] using this
theorem c_textR28' {E : Env} (h : E.prim 12 = some fun _ => p_textR28) {S : Store} {x0 : AV} {m : Mani} (h0 : rdS S x0 = some (.agg (maniL m))) (hk : mayP m = true) {K : AV → Store → Prop} {d : Dm K} : SpD E 12 [x0] S K d = K (enc (bytesA (maniV m))) (killH (topIdsL [x0]) S) :=
  callH h i_textR28 (a := m) (by simp only [e_textR28, rdSL, h0, Option.bind_some, Option.map_some]) hk
def e_sameR28 : Mani × Mani → List AV := fun | (a, b) => [.agg (maniL a), .agg (maniL b)]
def k_sameR28 : Mani × Mani → Prop := fun | (a, b) => longM a ∧ longM b
def r_sameR28 : Mani × Mani → AV := fun | (a, b) => .bool (decide (a = b))
noncomputable def p_sameR28 : List AV → Store → Option (AV × Store) := primS e_sameR28 (gd k_sameR28 r_sameR28)
theorem i_sameR28 : Inj e_sameR28 := by
  rintro ⟨a1, b1⟩ ⟨a2, b2⟩ h
  simpa only [e_sameR28, enc_inj, rec_inj, AV.str.injEq, AV.int.injEq, AV.bool.injEq, AV.agg.injEq, AV.ptr.injEq, AV.fn.injEq, List.cons.injEq, and_true, true_and, Prod.mk.injEq, Mani.ext_iff, and_assoc] using h
theorem c_sameR28 {E : Env} (h : E.prim 13 = some fun _ => p_sameR28) (a : Mani) (b : Mani) (hk : longM a ∧ longM b) {S : Store} {K : AV → Store → Prop} {d : Dm K} : SpD E 13 [.agg (maniL a), .agg (maniL b)] S K d = K (.bool (decide (a = b))) S :=
  callS h i_sameR28 (a := (a, b)) (by simp only [e_sameR28, rdSL_cons, rdSL_nil, rdS_int, rdS_bool, rdS_str, enc_rdS, rdS_fn0, rdS_csl0, rdS_rec, rdSL_rec, rdS_agg, rdS_tup, Option.bind_some, Option.map_some]) hk
theorem c_sameR28' {E : Env} (h : E.prim 13 = some fun _ => p_sameR28) {S : Store} {x0 x1 : AV} {a : Mani} {b : Mani} (h0 : rdS S x0 = some (.agg (maniL a))) (h1 : rdS S x1 = some (.agg (maniL b))) (hk : longM a ∧ longM b) {K : AV → Store → Prop} {d : Dm K} : SpD E 13 [x0, x1] S K d = K (.bool (decide (a = b))) S :=
  callS h i_sameR28 (a := (a, b)) (by simp only [e_sameR28, rdSL, h0, h1, Option.bind_some, Option.map_some]) hk
def e_manifestText : Mani → List AV := fun m => [.agg (maniL m)]
def k_manifestText : Mani → Prop := fun m => m.members.length ≤ 9223372036854775807
def r_manifestText : Mani → AV := fun m => .bool true
noncomputable def p_manifestText : List AV → Store → Option (AV × Store) := primS e_manifestText (gd k_manifestText r_manifestText)
theorem i_manifestText : Inj e_manifestText := by
  intro m1 m2 h
  simpa only [e_manifestText, enc_inj, rec_inj, AV.str.injEq, AV.int.injEq, AV.bool.injEq, AV.agg.injEq, AV.ptr.injEq, AV.fn.injEq, List.cons.injEq, and_true, true_and, Prod.mk.injEq, Mani.ext_iff, and_assoc] using h
theorem c_manifestText {E : Env} (h : E.prim 3 = some fun _ => p_manifestText) (m : Mani) (hk : m.members.length ≤ 9223372036854775807) {S : Store} {K : AV → Store → Prop} {d : Dm K} : SpD E 3 [.agg (maniL m)] S K d = K (.bool true) S :=
  callS h i_manifestText (a := m) (by simp only [e_manifestText, rdSL_cons, rdSL_nil, rdS_int, rdS_bool, rdS_str, enc_rdS, rdS_fn0, rdS_csl0, rdS_rec, rdSL_rec, rdS_agg, rdS_tup, Option.bind_some, Option.map_some]) hk
theorem c_manifestText' {E : Env} (h : E.prim 3 = some fun _ => p_manifestText) {S : Store} {x0 : AV} {m : Mani} (h0 : rdS S x0 = some (.agg (maniL m))) (hk : m.members.length ≤ 9223372036854775807) {K : AV → Store → Prop} {d : Dm K} : SpD E 3 [x0] S K d = K (.bool true) S :=
  callS h i_manifestText (a := m) (by simp only [e_manifestText, rdSL, h0, Option.bind_some, Option.map_some]) hk

/-! ### what may be is right -/
theorem len_raw {b : List UInt8} (h : b.length ≤ 1048576) : (bytesA (rawV b)).length = 4 + b.length := by
  rw [rawV, bytesA_2]; simp only [List.length_cons, List.length_append, put_len3 h]; omega
theorem len_num (n : Int) : (bytesA (numV n)).length ≤ 10 := by
  rw [numV, bytesA_1]; have := plain_len n; simp only [List.length_cons]; omega
theorem len_list {l : List Val} (h : l.length ≤ 4096) : (bytesA (listV l)).length = 3 + (bytesAL l).length := by
  rw [listV, bytesA_3 _ _ _ (by decide) (by decide)]; simp only [List.length_cons, List.length_append, put_len2 h]; omega
theorem pure_raw {b : List UInt8} (h : b.length ≤ 1048576) : pureA (rawV b) = true := by simp [rawV, pureA, pure1, pureAL, Val.kind, Val.num, Val.bytes, Val.list, h]
theorem pure_num {n : Int} (h0 : 0 ≤ n) (h1 : n ≤ 4611686018427387904) : pureA (numV n) = true := by simp [numV, pureA, pure1, pureAL, Val.kind, Val.num, Val.bytes, Val.list, h0, h1]
theorem pure_list {l : List Val} (h : l.length ≤ 4096) (k : ∀ w, w ∈ l → pureA w = true) : pureA (listV l) = true := by simp [listV, pureA, pure1, Val.kind, Val.num, Val.bytes, Val.list, h, pureAL_of k]
theorem deep_list {l : List Val} {d : Nat} (k : ∀ w, w ∈ l → deepA w ≤ d) : deepA (listV l) ≤ d + 1 := by
  have h : ∀ l : List Val, (∀ w, w ∈ l → deepA w ≤ d) → deepAL l ≤ d := fun l => by
    induction l with
    | nil => intro _; simp [deepAL]
    | cons v l ih => intro h; simp only [deepAL]; have := h v List.mem_cons_self; have := ih fun w hw => h w (List.mem_cons_of_mem _ hw); omega
  simp only [listV, deepA, if_true]; have := h l k; omega
theorem deep_raw (b : List UInt8) : deepA (rawV b) = 0 := by simp [rawV, deepA]
theorem deep_num (n : Int) : deepA (numV n) = 0 := by simp [numV, deepA]
theorem bytesAL_le {l : List Val} {c : Nat} (h : ∀ w, w ∈ l → (bytesA w).length ≤ c) : (bytesAL l).length ≤ l.length * c := by
  induction l with
  | nil => simp [bytesAL]
  | cons v l ih =>
    have h1 := h v List.mem_cons_self
    have h2 := ih fun w hw => h w (List.mem_cons_of_mem _ hw)
    simp only [bytesAL, List.length_append, List.length_cons, Nat.add_mul, Nat.one_mul]; omega
theorem name_len {s : Str} (h : nameOk s = true) : s.length ≤ 12 := by simp only [nameOk, Bool.and_eq_true, decide_eq_true_eq] at h; omega
theorem okFrom_mem {p : Option Str} {l : List Mem} (h : okFrom p l = true) : ∀ x, x ∈ l → nameOk x.name = true ∧ isRole x.role = true := ((okFrom_iff p l).1 h).1
theorem right_mem {l : List Mem} (h : rightP l = true) : l.length ≤ 8 ∧ ∀ x, x ∈ l → x.name.length ≤ 12 ∧ 1 ≤ x.role ∧ x.role ≤ 4 := by
  simp only [rightP, Bool.and_eq_true, decide_eq_true_eq] at h
  refine ⟨h.1.2, fun x hx => ?_⟩
  obtain ⟨h1, h2⟩ := okFrom_mem h.1.1 x hx
  simp only [isRole, decide_eq_true_eq] at h2
  exact ⟨name_len h1, h2⟩
theorem right_memV {x : Mem} (h : x.name.length ≤ 12 ∧ 1 ≤ x.role ∧ x.role ≤ 4) : pureA (memV x) = true ∧ deepA (memV x) ≤ 1 ∧ (bytesA (memV x)).length ≤ 29 := by
  refine ⟨pure_list (by simp) fun w hw => ?_, deep_list (d := 0) fun w hw => ?_, ?_⟩
  · simp only [List.mem_cons, List.not_mem_nil, or_false] at hw
    rcases hw with rfl | rfl
    · exact pure_raw (by omega)
    · exact pure_num (by omega) (by omega)
  · simp only [List.mem_cons, List.not_mem_nil, or_false] at hw
    rcases hw with rfl | rfl
    · rw [deep_raw]; exact Nat.le_refl _
    · rw [deep_num]; exact Nat.le_refl _
  · have h1 := len_raw (b := x.name) (by omega)
    have h2 := len_num x.role
    rw [memV, len_list (by simp)]
    simp only [bytesAL, List.length_append, List.length_nil]; omega
theorem right_mani {m : Mani} (h : mayP m = true) : rightV (maniV m) := by
  have hq : MayQ m := of_decide_eq_true h
  obtain ⟨q1, q2, q3, q4, q5, q6, q7, q8, q9, q10, q11⟩ := hq
  obtain ⟨r1, r2⟩ := right_mem q9
  have l1 := name_len q1
  have l2 := name_len q2
  have l3 : m.parent.length ≤ 12 := by
    rcases q7 with q | q
    · rw [q]; simp
    · exact name_len q
  have hg : goneN m = 0 ∨ goneN m = 1 := by unfold goneN; cases m.gone <;> simp
  have hms : ∀ w, w ∈ m.members.map memV → pureA w = true ∧ deepA w ≤ 1 ∧ (bytesA w).length ≤ 29 := fun w hw => by
    obtain ⟨x, hx, rfl⟩ := List.mem_map.1 hw
    exact right_memV (r2 x hx)
  have hml : (m.members.map memV).length ≤ 8 := by simpa using r1
  have hmb := bytesAL_le (l := m.members.map memV) (c := 29) fun w hw => (hms w hw).2.2
  have hmb2 := Nat.mul_le_mul_right 29 hml
  refine ⟨pure_list (by simp [maniVs]) fun w hw => ?_, Nat.le_trans (deep_list (d := 2) fun w hw => ?_) (by omega), ?_⟩
  · simp only [maniVs, List.mem_cons, List.not_mem_nil, or_false] at hw
    rcases hw with rfl | rfl | rfl | rfl | rfl | rfl | rfl | rfl | rfl
    · exact pure_raw (by simp [markM])
    · exact pure_raw (by omega)
    · exact pure_num (by omega) (by omega)
    · exact pure_raw (by omega)
    · exact pure_raw (by omega)
    · exact pure_list (by omega) fun w hw => (hms w hw).1
    · exact pure_num (by omega) (by omega)
    · exact pure_num (by omega) (by omega)
    · exact pure_raw (by omega)
  · simp only [maniVs, List.mem_cons, List.not_mem_nil, or_false] at hw
    rcases hw with rfl | rfl | rfl | rfl | rfl | rfl | rfl | rfl | rfl <;> first | (rw [deep_raw]; omega) | (rw [deep_num]; omega) | exact deep_list fun w hw => (hms w hw).2.1
  · have h1 := len_raw (b := markM) (by simp [markM])
    have h1' : markM.length = 8 := rfl
    have h2 := len_raw (b := m.folder) (by omega)
    have h3 := len_num m.seq
    have h4 := len_raw (b := m.prev) (by omega)
    have h5 := len_raw (b := m.parent) (by omega)
    have h6 := len_list (l := m.members.map memV) (by omega)
    have h7 := len_num m.cut
    have h8 := len_num (goneN m)
    have h9 := len_raw (b := m.by') (by omega)
    rw [maniV, len_list (by simp [maniVs])]
    simp only [maniVs, bytesAL, List.length_append, List.length_nil]; omega

/-! ### walks -/
theorem s2b_enc (s : Str) : AV.csl (s.map fun c => .int .u8 c.toNat) s.length = enc s := by
  rw [enc]; congr 1
  induction s with
  | nil => rfl
  | cons c s ih => rw [List.map_cons, cl_cons, ← ih]; rfl
theorem ok_word28 {E : Env} (hp : E.prim 19 = none) (hf : E.F 19 = some F19) (h1 : E.prim 22 = some fun _ => p_raw02) : OkG E 19 e_word28 (gd k_word28 r_word28) := by
  refine OkG.code hp hf (fun _ => rfl) fun s S hk => ?_
  have hb : s2bfA (.str s) = some (enc s) := by rw [s2bf_str s hk, s2b_enc]
  simp -dsimp only [go_sem, F19, e_word28, r_word28, hb, c_raw02 h1]
  exact Conv.good (List.prefix_append _ _) (fun i h => by simp [topIds, topIdsL, enc_top] at h) (rd_val _ _ _ _ [] (enc_rdS _ _) (enc_rdS _ _))
theorem ok_bit28 {E : Env} (hp : E.prim 23 = none) (hf : E.F 23 = some F23) : OkS E 23 e_bit28 (gd k_bit28 r_bit28) := by
  refine OkS.code hp hf (fun _ => rfl) fun b _ => ?_
  cases b <;> simp -dsimp only [go_sem, F23, e_bit28, r_bit28]
theorem prefix_kill {S T : Store} (h : S <+: T) : ∀ (ids : List Nat), (∀ i, i ∈ ids → S.length ≤ i) → S <+: killL ids T
  | [], _ => h
  | i :: ids, hi => by
    rw [killL_cons]
    have h2 := prefix_set h (hi i (by simp)) AObj.dead
    exact prefix_kill h2 ids fun j hj => hi j (by simp [hj])
theorem enc_two (a b : Val) : AV.csl [.int .i64 a.kind, .int .i64 a.num, enc a.bytes, enc a.list, .int .i64 b.kind, .int .i64 b.num, enc b.bytes, enc b.list] 2 = enc [a, b] := by
  simp only [enc, cl_cons, cl_nil, c_val, List.length_cons, List.length_nil]; rfl
theorem enc_rn (s : Str) (n : Int) : AV.csl [.int .i64 2, .int .i64 0, enc s, enc ([] : List Val), .int .i64 1, .int .i64 n, enc ([] : List UInt8), enc ([] : List Val)] 2 = enc [rawV s, numV n] := enc_two (rawV s) (numV n)
theorem enc_l1 (l : List Val) : AV.csl [.int .i64 3, .int .i64 0, enc ([] : List UInt8), enc l] 1 = enc [listV l] := csl_v1 (listV l)
theorem enc_mani (m : Mani) : enc (maniVs m) = .csl [.int .i64 2, .int .i64 0, enc markM, enc ([] : List Val), .int .i64 2, .int .i64 0, enc m.folder, enc ([] : List Val),
        .int .i64 1, .int .i64 m.seq, enc ([] : List UInt8), enc ([] : List Val), .int .i64 2, .int .i64 0, enc m.prev, enc ([] : List Val), .int .i64 2, .int .i64 0, enc m.parent, enc ([] : List Val), .int .i64 3, .int .i64 0, enc ([] : List UInt8), enc (m.members.map memV),
        .int .i64 1, .int .i64 m.cut, enc ([] : List UInt8), enc ([] : List Val), .int .i64 1, .int .i64 (if m.gone = true then 1 else 0), enc ([] : List UInt8), enc ([] : List Val), .int .i64 2, .int .i64 0, enc m.by', enc ([] : List Val)] 9 := by
  rw [enc]
  simp only [maniVs, cl_cons, cl_nil, c_val, valL, rawV, numV, listV, goneN, k_mk, n_mk, b_mk, l_mk, List.length_cons, List.length_nil]
  rfl
@[go_sem] theorem k_raw (b : List UInt8) : (rawV b).kind = 2 := rfl
@[go_sem] theorem n_raw (b : List UInt8) : (rawV b).num = 0 := rfl
@[go_sem] theorem b_raw (b : List UInt8) : (rawV b).bytes = b := rfl
@[go_sem] theorem l_raw (b : List UInt8) : (rawV b).list = [] := rfl
theorem ok_text28 {E : Env} (hp : E.prim 7 = none) (hf : E.F 7 = some F7) (h1 : E.prim 17 = some fun _ => p_may) (h2 : E.prim 18 = some fun _ => p_of02) (h3 : E.prim 19 = some fun _ => p_word28)
    (h4 : E.prim 20 = some fun _ => p_num02) (h5 : E.prim 22 = some fun _ => p_raw02) (h6 : E.prim 23 = some fun _ => p_bit28) (h7 : E.prim 21 = some fun _ => p_encode) : OkG E 7 e_text28 (gd k_text28 r_text28) := by
  refine OkG.code hp hf (fun _ => rfl) fun m S hk => ?_
  have cm : ∀ (S : Store) (K : AV → Store → Prop) (d : Dm K), SpD E 17 [.agg (maniL m)] S K d = K (.bool (mayP m)) S := fun _ _ _ => c_may h1 m hk
  cases y1 : mayP m
  · have ht : textP m = ([], 2) := if_neg (by simp [y1])
    simp -dsimp only [go_sem, F7, e_text28, r_text28, cm, y1, ht]
    exact conv_pair (List.prefix_append _ _) (fun i h => by simp [topIds] at h) rfl
  have ht : textP m = (bytesA (maniV m), 0) := if_pos y1
  have hr := right_mani y1
  have he := encode_ok hr
  have hq : MayQ m := of_decide_eq_true y1
  obtain ⟨q1, q2, q3, q4, q5, q6, q7, q8, q9, q10, q11⟩ := hq
  obtain ⟨r1, r2⟩ := right_mem q9
  have l1 := name_len q1
  have l2 := name_len q2
  have l3 : m.parent.length ≤ 12 := by
    rcases q7 with q | q
    · rw [q]; simp
    · exact name_len q
  have co := fun (T : Store) (K : AV → Store → Prop) (q : Dm K) => c_of02 h2 .nilS rfl (S := T) (K := K) (d := q)
  simp -dsimp only [go_sem, F7, e_text28, r_text28, cm, y1, ht, co]
  refine Ex.range (n := m.members.length) (fun i g T => g 1 = .ptr S.length 0 ∧ g 4 = .ptr (S.length + 1) 0 ∧ g 12 = enc m.members ∧ ∃ (y : AV) (R : Store), T = S ++ (.cells (maniL m) :: .cells [.int .i64 3, .int .i64 0, enc ([] : List UInt8), y] :: R) ∧
    OwnR (S.length + 2) R y ((m.members.take i).map memV)) (by decide) (by omega) rfl rfl ⟨rfl, rfl, rfl, .nilS, [], rfl, .inl ⟨rfl, rfl⟩⟩ ?_ ?_
  · rintro i g T hi gi gn ⟨g1, g4, g12, y, R, rfl, hR⟩
    have hm := r2 _ (List.getElem_mem hi)
    have cw := fun (T : Store) (K : AV → Store → Prop) (q : Dm K) => c_word28 h3 m.members[i].name (by omega) (S := T) (K := K) (d := q)
    simp -dsimp only [go_sem, gi, gn, g1, g4, g12, ia_enc .i64 hi, ld_enc, c_mem]
    refine ExF.intro ?_
    have co2 := fun (T : Store) (K : AV → Store → Prop) (q : Dm K) => c_of02 h2 (enc [rawV m.members[i].name, numV m.members[i].role]) rfl (S := T) (K := K) (d := q)
    simp -dsimp only [go_sem, gi, gn, g1, g4, g12, cw, c_num02 h4, valL, enc_rn, co2, enc_l1]
    have hO : OwnL (S ++ [.cells (maniL m), .cells [.int .i64 3, .int .i64 0, enc ([] : List UInt8), y]]) _ y _ := OwnR.own (R := R ++ [.cells [.str m.members[i].name, .int .i64 m.members[i].role]]) (by simpa using hR.more _)
    simp only [List.append_assoc, List.cons_append, List.nil_append] at hO
    refine OwnL.app hO rfl (el_enc _ rfl) ?_ fun y' T' hO' hK hi' => ?_
    · simp only [List.length_singleton, List.length_map, List.length_take]; omega
    obtain ⟨R', rfl⟩ := hO'.1
    have hR' := hO'.ownR
    have yc := hO'.cells1
    simp only [List.append_assoc, List.cons_append, List.nil_append]
    simp -dsimp only [go_sem, gi, gn, g1, g4, g12, yc]
    refine ⟨⟨y', R', rfl, ?_⟩, ?_⟩
    · rw [List.take_succ_eq_append_getElem hi, List.map_append]; simpa [memV] using hR'
    · (repeat' (first | exact fl_ld rfl rfl rfl rfl (flLd_n _ _ _ _ _ _ (by simp -dsimp only [go_sem, g1, g4, g12])) | exact fl_b2s rfl rfl rfl rfl (by simp -dsimp only [go_sem, g1, g4, g12]) | apply And.intro))
  · rintro g T gi ⟨g1, g4, g12, y, R, rfl, hR⟩
    simp -dsimp only [go_sem, gi, g1, g4, g12]
    refine ExF.intro ?_
    have cw1 : ∀ (T : Store) (K : AV → Store → Prop) (q : Dm K), SpD E 19 [.str [109, 97, 110, 105, 102, 101, 115, 116]] T K q = K (.agg (valL (rawV markM))) T := fun T K q => c_word28 h3 markM (by decide)
    have cw2 := fun (T : Store) (K : AV → Store → Prop) (q : Dm K) => c_word28 h3 m.folder (by omega) (S := T) (K := K) (d := q)
    have cw3 := fun (T : Store) (K : AV → Store → Prop) (q : Dm K) => c_word28 h3 m.parent (by omega) (S := T) (K := K) (d := q)
    have cw4 := fun (T : Store) (K : AV → Store → Prop) (q : Dm K) => c_word28 h3 m.by' (by omega) (S := T) (K := K) (d := q)
    simp -dsimp only [go_sem, gi, g1, g4, g12, cw1, cw2, cw3, cw4, c_num02 h4, c_raw02 h5, c_bit28 h6, valL]
    have hO : OwnL (S ++ [.cells (maniL m), .cells [.int .i64 3, .int .i64 0, enc ([] : List UInt8), y]]) _ y _ := OwnR.own (R := R) (by simpa using hR)
    simp only [List.append_assoc, List.cons_append, List.nil_append] at hO
    have hrd := hO.rd
    have co3 := fun (l : List AV) (n : Nat) (T : Store) (K : AV → Store → Prop) (q : Dm K) => c_of02 h2 (.csl l n) rfl (S := T) (K := K) (d := q)
    have hval : rdS (S ++ AObj.cells (maniL m) :: AObj.cells [AV.int IntKind.i64 3, AV.int IntKind.i64 0, enc ([] : List UInt8), y] :: R) (.agg [.int .i64 3, .int .i64 0, enc ([] : List UInt8), .csl [.int .i64 2, .int .i64 0, enc markM, enc ([] : List Val), .int .i64 2, .int .i64 0, enc m.folder, enc ([] : List Val),
        .int .i64 1, .int .i64 m.seq, enc ([] : List UInt8), enc ([] : List Val), .int .i64 2, .int .i64 0, enc m.prev, enc ([] : List Val), .int .i64 2, .int .i64 0, enc m.parent, enc ([] : List Val), .int .i64 3, .int .i64 0, enc ([] : List UInt8), y,
        .int .i64 1, .int .i64 m.cut, enc ([] : List UInt8), enc ([] : List Val), .int .i64 1, .int .i64 (if m.gone = true then 1 else 0), enc ([] : List UInt8), enc ([] : List Val), .int .i64 2, .int .i64 0, enc m.by', enc ([] : List Val)] 9]) = some (.agg (valL (maniV m))) := by
      simp only [rdS, rdSL, rd0, enc_rdS, hrd, Option.bind_some, Option.map_some]
      show _ = some (AV.agg [.int .i64 3, .int .i64 0, enc ([] : List UInt8), enc (maniVs m)])
      rw [enc_mani]
    have ce := fun (K : AV → Store → Prop) (q : Dm K) => c_encode' h7 hval (K := K) (d := q)
    simp -dsimp only [go_sem, co3, ce, he]
    refine ⟨?_, ?_⟩
    · simp -dsimp only [go_sem, F7, r_text28, ht]
      have htop : ∀ i, i ∈ topIdsL [AV.agg [AV.int IntKind.i64 3, AV.int IntKind.i64 0, enc ([] : List UInt8), AV.csl [AV.int IntKind.i64 2, AV.int IntKind.i64 0, enc markM, enc ([] : List Val), AV.int IntKind.i64 2, AV.int IntKind.i64 0, enc m.folder, enc ([] : List Val),
        .int .i64 1, .int .i64 m.seq, enc ([] : List UInt8), enc ([] : List Val), .int .i64 2, .int .i64 0, enc m.prev, enc ([] : List Val), .int .i64 2, .int .i64 0, enc m.parent, enc ([] : List Val), .int .i64 3, .int .i64 0, enc ([] : List UInt8), y,
        .int .i64 1, .int .i64 m.cut, enc ([] : List UInt8), enc ([] : List Val), .int .i64 1, .int .i64 (if m.gone = true then 1 else 0), enc ([] : List UInt8), enc ([] : List Val), .int .i64 2, .int .i64 0, enc m.by', enc ([] : List Val)] 9]] → S.length ≤ i := fun i hi => by
        simp only [topIdsL, topIds, enc_top, List.nil_append, List.append_nil] at hi
        have := hO.ids i hi
        simp at this; omega
      exact conv_pair (x := enc (bytesA (maniV m))) (prefix_kill (List.prefix_append _ _) _ htop) (fun i h => by simp [enc_top] at h) (enc_rdS _ _)
    · (repeat' (first | exact fl_ld rfl rfl rfl rfl (flLd_n _ _ _ _ _ _ (by simp -dsimp only [go_sem, g1, g4, g12])) | exact fl_b2s rfl rfl rfl rfl (by simp -dsimp only [go_sem, g1, g4, g12]) | apply And.intro))
end Go.Proofs.Ytaajlbbooneiiaa.Avm
set_option linter.unusedVariables false
set_option linter.unusedSimpArgs false
set_option maxRecDepth 10000
namespace Go.Proofs.Ytaajlbbooneiiaa.Avm

theorem b2s_enc (S : Store) (l : List UInt8) : b2sA S (enc l) = some (.str l) := by
  have := el_enc (S := S) l (sz := 1) rfl
  simp only [b2sA, enc] at this ⊢
  rw [this]
  simp only [Option.bind_some, asBytes_cl, Option.map_some]
theorem fields_len {v : Val} {ks : List Int} (h : (fieldsP v ks).2 = true) : (fieldsP v ks).1 = v.list ∧ v.list.length = ks.length ∧ v.kind = 3 ∧ v.list.map (·.kind) = ks := by
  unfold fieldsP at h ⊢
  split at h
  · rename_i hh; rw [if_pos hh]; exact ⟨rfl, by rw [← hh.2]; simp, hh.1, hh.2⟩
  · cases h
theorem at0_get {l : List Val} {i : Nat} (h : i < l.length) : l[i] = at0 l i := by rw [at0, List.getD_eq_getElem?_getD, List.getElem?_eq_getElem h]; rfl
theorem ia_at {l : List Val} {i : Nat} (h : i < l.length) (k : IntKind) : iaddrA 4 (enc l) (.int k i) = some (.cptr (.int .i64 (at0 l i).kind :: .int .i64 (at0 l i).num :: enc (at0 l i).bytes :: enc (at0 l i).list :: cl (l.drop (i + 1)))) := by
  have := ia_enc (sz := 4) (l := l) (i := i) k h rfl
  rw [this, at0_get h, c_val]; rfl
theorem memsOf_len : ∀ {l : List Val} {ms : List Mem}, memsOf l = some ms → ms.length = l.length
  | [], ms, h => by simp only [memsOf, Option.some.injEq] at h; subst h; rfl
  | x :: l, ms, h => by
    simp only [memsOf] at h
    split at h
    · obtain ⟨m, h1, rfl⟩ := Option.map_eq_some_iff.1 h
      simp [memsOf_len h1]
    · cases h
theorem memsOf_app {l m : List Val} {ms : List Mem} (h : memsOf l = some ms) : memsOf (l ++ m) = (memsOf m).map (ms ++ ·) := by
  induction l generalizing ms with
  | nil => simp only [memsOf, Option.some.injEq] at h; subst h; simp
  | cons x l ih =>
    simp only [memsOf, List.cons_append] at h ⊢
    split at h
    · rename_i hx
      obtain ⟨m', h1, rfl⟩ := Option.map_eq_some_iff.1 h
      rw [if_pos hx, ih h1]
      cases memsOf m <;> rfl
    · cases h
theorem memsOf_one (x : Val) : memsOf [x] = if (fieldsP x ks2).2 = true then some [memOf x] else none := by
  simp only [memsOf]; split <;> rfl
theorem memsOf_bad {l : List Val} {i : Nat} {ms : List Mem} (hi : i < l.length) (h : memsOf (l.take i) = some ms) (hx : (fieldsP l[i] ks2).2 = false) : memsOf l = none := by
  have e : l = l.take i ++ (l[i] :: l.drop (i + 1)) := by rw [← List.drop_eq_getElem_cons hi, List.take_append_drop]
  rw [e, memsOf_app h, memsOf, if_neg (by simp [hx])]; rfl
theorem memsOf_succ {l : List Val} {i : Nat} {ms : List Mem} (hi : i < l.length) (h : memsOf (l.take i) = some ms) (hx : (fieldsP l[i] ks2).2 = true) : memsOf (l.take (i + 1)) = some (ms ++ [memOf l[i]]) := by
  rw [List.take_succ_eq_append_getElem hi, memsOf_app h, memsOf_one, if_pos hx]; rfl
theorem pureA_list {v : Val} (h : pureA v = true) : ∀ w, w ∈ v.list → pureA w = true := by
  cases v with
  | mk k n b l =>
    simp only [pureA, Bool.and_eq_true] at h
    exact pureAL_mem h.2
theorem pureA_1 {v : Val} (h : pureA v = true) : pure1 v = true := by
  cases v with
  | mk k n b l => simp only [pureA, Bool.and_eq_true] at h; exact h.1
theorem pure_llen {v : Val} (h : pureA v = true) : v.list.length ≤ 4096 ∧ v.bytes.length ≤ 1048576 := by
  have h := pureA_1 h
  by_cases k1 : v.kind = 1
  · have := pure1_1 h k1; omega
  by_cases k2 : v.kind = 2
  · have := pure1_2 h k2; omega
  have := pure1_3 h k1 k2; omega
theorem pure_at {l : List Val} (h : ∀ w, w ∈ l → pureA w = true) (i : Nat) : pureA (at0 l i) = true ∨ at0 l i = nul := by
  by_cases hi : i < l.length
  · rw [← at0_get hi]; exact .inl (h _ (List.getElem_mem hi))
  · refine .inr ?_; rw [at0, List.getD_eq_getElem?_getD, List.getElem?_eq_none (by omega)]; rfl
theorem at_len {l : List Val} (h : ∀ w, w ∈ l → pureA w = true) (i : Nat) : (at0 l i).list.length ≤ 4096 ∧ (at0 l i).bytes.length ≤ 1048576 := by
  rcases pure_at h i with h | h
  · exact pure_llen h
  · rw [h]; decide
theorem at_list {l : List Val} (h : ∀ w, w ∈ l → pureA w = true) (i : Nat) : ∀ w, w ∈ (at0 l i).list → pureA w = true := by
  rcases pure_at h i with h | h
  · exact pureA_list h
  · rw [h]; intro w hw; cases hw
theorem mems_long {l : List Val} (h : ∀ w, w ∈ l → pureA w = true) {ms : List Mem} (hm : memsOf l = some ms) : ∀ x, x ∈ ms → x.name.length ≤ 1048576 := by
  induction l generalizing ms with
  | nil => simp only [memsOf, Option.some.injEq] at hm; subst hm; intro x hx; cases hx
  | cons v l ih =>
    simp only [memsOf] at hm
    split at hm
    · obtain ⟨m', h1, rfl⟩ := Option.map_eq_some_iff.1 hm
      intro x hx
      cases hx with
      | head => exact (at_len (pureA_list (h v List.mem_cons_self)) 0).2
      | tail _ hx => exact ih (fun w hw => h w (List.mem_cons_of_mem _ hw)) h1 x hx
    · cases hm
theorem maniOf_long {l : List Val} {ms : List Mem} (h : ∀ w, w ∈ l → pureA w = true) (hm : ms.length ≤ 4096) (hx : ∀ x, x ∈ ms → x.name.length ≤ 1048576) : longM (maniOf l ms) := by
  have h1 := at_len h 1
  have h3 := at_len h 3
  have h4 := at_len h 4
  have h8 := at_len h 8
  exact ⟨by simp only [maniOf]; omega, by simp only [maniOf]; omega, by simp only [maniOf]; omega, ⟨by simp only [maniOf]; omega, fun x hxm => by have := hx x hxm; omega⟩, by simp only [maniOf]; omega⟩
def maniA (a : Str) (b : Int) (c : AV) (d : Str) (y : AV) (e : Int) (f : Bool) (g : Str) : List AV := [.str a, .int .i64 b, c, .str d, y, .int .i64 e, .bool f, .str g]
theorem rd_mani (T : Store) {a d g : Str} {b e : Int} {f : Bool} {c y : AV} {cb : List UInt8} {ms : List Mem} (hc : rdS T c = some (enc cb)) (hy : rdS T y = some (enc ms)) : rdS T (.agg [.str a, .int .i64 b, c, .str d, y, .int .i64 e, .bool f, .str g]) = some (.agg (maniL ⟨a, b, cb, d, ms, e, f, g⟩)) := by
  simp only [rdS, rdSL, rd0, hc, hy, Option.bind_some, Option.map_some]
theorem ok_read28 {E : Env} (hp : E.prim 10 = none) (hf : E.F 10 = some F10) (h1 : E.prim 26 = some fun _ => p_decode) (h2 : E.prim 27 = some fun _ => p_fields) (h3 : E.prim 17 = some fun _ => p_may) : OkG E 10 e_read28 (gd k_read28 r_read28) := by
  refine OkG.code hp hf (fun _ => rfl) fun b S _ => ?_
  have fe : ∀ (T : Store) (e : Int), S <+: T → Conv S T (.tup [.agg [.str [], .int .i64 0, .nilS, .str [], .nilS, .int .i64 0, .bool false, .str []], .int .i64 e]) S (.tup [.agg (maniL mani0), .int .i64 e]) := fun T e hp =>
    conv_pair hp (fun i h => by simp [topIds, topIdsL] at h) (rd_mani T (cb := []) (ms := []) rfl rfl)
  have pr : ∀ L : List AObj, S <+: S ++ L := fun L => List.prefix_append _ _
  obtain ⟨d, hd⟩ : ∃ d, decodeP b = d := ⟨_, rfl⟩
  have hr : readM b = readD d := by rw [readM, hd]
  unfold readD at hr
  cases y1 : decide (d.2 = 0)
  · rw [if_pos (of_decide_eq_false y1)] at hr
    simp -dsimp only [go_sem, F10, e_read28, r_read28, c_decode h1, hd, y1, hr]
    exact fe _ _ (pr _)
  have y1' := of_decide_eq_true y1
  rw [if_neg (fun h => h y1')] at hr
  obtain ⟨v, e⟩ := d
  simp only at y1' hr y1
  subst y1'
  obtain ⟨⟨hpu, hde, hby⟩, hbv⟩ := decode_inv hd
  have hvl := (pure_llen hpu).1
  have hpl := pureA_list hpu
  have cf : ∀ (T : Store) (K : AV → Store → Prop) (q : Dm K), SpD E 27 [.agg (valL v), .csl [.int .i64 2, .int .i64 2, .int .i64 1, .int .i64 2, .int .i64 2, .int .i64 3, .int .i64 1, .int .i64 1, .int .i64 2] 9] T K q = K (.tup [enc (fieldsP v ks9).1, .bool (fieldsP v ks9).2]) T := fun T K q => c_fields h2 v ks9 ⟨by decide, by omega⟩
  cases y2 : (fieldsP v ks9).2
  · rw [if_pos (.inl y2)] at hr
    simp -dsimp only [go_sem, F10, e_read28, r_read28, c_decode h1, hd, cf, y2, hr]
    exact fe _ _ (pr _)
  obtain ⟨f1, f2, f3, f4⟩ := fields_len y2
  have f2 : v.list.length = 9 := f2
  rw [f1] at cf
  have i0 := ia_at (l := v.list) (i := 0) (by omega) .i64
  have i1 : iaddrA 4 (enc v.list) (.int .i64 1) = _ := ia_at (l := v.list) (i := 1) (by omega) .i64
  have i2 : iaddrA 4 (enc v.list) (.int .i64 2) = _ := ia_at (l := v.list) (i := 2) (by omega) .i64
  have i3 : iaddrA 4 (enc v.list) (.int .i64 3) = _ := ia_at (l := v.list) (i := 3) (by omega) .i64
  have i4 : iaddrA 4 (enc v.list) (.int .i64 4) = _ := ia_at (l := v.list) (i := 4) (by omega) .i64
  have i5 : iaddrA 4 (enc v.list) (.int .i64 5) = _ := ia_at (l := v.list) (i := 5) (by omega) .i64
  have i6 : iaddrA 4 (enc v.list) (.int .i64 6) = _ := ia_at (l := v.list) (i := 6) (by omega) .i64
  have i7 : iaddrA 4 (enc v.list) (.int .i64 7) = _ := ia_at (l := v.list) (i := 7) (by omega) .i64
  have i8 : iaddrA 4 (enc v.list) (.int .i64 8) = _ := ia_at (l := v.list) (i := 8) (by omega) .i64
  simp only [Int.natCast_zero] at i0
  cases y3 : decide ((at0 v.list 0).bytes = [109, 97, 110, 105, 102, 101, 115, 116])
  · rw [if_pos (.inr (of_decide_eq_false y3))] at hr
    simp -dsimp only [go_sem, F10, e_read28, r_read28, c_decode h1, hd, cf, y2, i0, b2s_enc, y3, hr]
    exact fe _ _ (pr _)
  rw [if_neg (fun h => h.elim (fun h => by rw [y2] at h; cases h) (fun h => h (of_decide_eq_true y3)))] at hr
  simp -dsimp only [go_sem, F10, e_read28, r_read28, c_decode h1, hd, cf, y2, i0, b2s_enc, y3]
  refine ExF.intro ?_
  simp -dsimp only [go_sem, i1, i2, i3, i4, i6, i7, i8, b2s_enc]
  refine ⟨?_, ?_⟩
  rotate_left
  · (repeat' (first | exact fl_ld rfl rfl rfl rfl (flLd_n _ _ _ _ _ _ (by simp -dsimp only [go_sem, i1, i2, i3, i4, i6, i7, i8, b2s_enc])) | exact fl_b2s rfl rfl rfl rfl (by simp -dsimp only [go_sem, i1, i2, i3, i4, i6, i7, i8, b2s_enc]) | apply And.intro))
  simp -dsimp only [go_sem, i5]
  obtain ⟨l5, hl5⟩ : ∃ l5, (at0 v.list 5).list = l5 := ⟨_, rfl⟩
  have h5l := at_len hpl 5
  have h5p := at_list hpl 5
  rw [hl5] at h5l h5p hr
  simp only [hl5]
  have cy : ∀ (T : Store) (y : AV) (ms : List Mem), rdS T y = some (enc ms) → ms.length ≤ 4096 → (∀ x, x ∈ ms → x.name.length ≤ 1048576) → ∀ (K : AV → Store → Prop) (q : Dm K), SpD E 17 [.agg [.str (at0 v.list 1).bytes, .int .i64 (at0 v.list 2).num, enc (at0 v.list 3).bytes, .str (at0 v.list 4).bytes, y, .int .i64 (at0 v.list 6).num, .bool (decide ((at0 v.list 7).num = 1)), .str (at0 v.list 8).bytes]] T K q = K (.bool (mayP (maniOf v.list ms))) T :=
    fun T y ms hy hm hx K q => c_may' h3 (rd_mani T (enc_rdS T _) hy) (maniOf_long hpl hm hx)
  refine Ex.range (n := l5.length) (fun i g T => g 2 = .ptr S.length 0 ∧ g 6 = enc v.list ∧ g 8 = .ptr (S.length + 2) 0 ∧ g 75 = enc l5 ∧ ∃ (y : AV) (R : Store) (ms : List Mem), T = S ++ (.cells [.str [], .int .i64 0, .nilS, .str [], .nilS, .int .i64 0, .bool false, .str []] :: .cells (valL v) ::
    .cells [.str (at0 v.list 1).bytes, .int .i64 (at0 v.list 2).num, enc (at0 v.list 3).bytes, .str (at0 v.list 4).bytes, y, .int .i64 (at0 v.list 6).num, .bool (decide ((at0 v.list 7).num = 1)), .str (at0 v.list 8).bytes] :: R) ∧
    OwnR (S.length + 3) R y ms ∧ memsOf (l5.take i) = some ms) (by decide) (by omega) rfl rfl ⟨rfl, rfl, rfl, rfl, .nilS, [], [], rfl, .inl ⟨rfl, rfl⟩, rfl⟩ ?_ ?_
  · rintro i g T hi gi gn ⟨g2, g6, g8, g75, y, R, ms, rfl, hR, hms⟩
    have hx := h5p _ (List.getElem_mem hi)
    have hxl := (pure_llen hx).1
    have cf2 : ∀ (T : Store) (K : AV → Store → Prop) (q : Dm K), SpD E 27 [.agg (valL l5[i]), enc [(2 : Int), 1]] T K q = K (.tup [enc (fieldsP l5[i] ks2).1, .bool (fieldsP l5[i] ks2).2]) T := fun T K q => c_fields h2 l5[i] ks2 ⟨by decide, by omega⟩
    cases yf : (fieldsP l5[i] ks2).2
    · rw [memsOf_bad hi hms yf] at hr
      simp only [Option.elim_none] at hr
      simp -dsimp only [go_sem, gi, gn, g2, g6, g8, g75, ia_enc .i64 hi, ld_enc, cf2, yf, F10, r_read28, hr]
      exact fe _ _ (pr _)
    · obtain ⟨p1, p2, p3, p4⟩ := fields_len yf
      have p2 : l5[i].list.length = 2 := p2
      rw [p1] at cf2
      have j0 := ia_at (l := l5[i].list) (i := 0) (by omega) .i64
      have j1 : iaddrA 4 (enc l5[i].list) (.int .i64 1) = _ := ia_at (l := l5[i].list) (i := 1) (by omega) .i64
      simp only [Int.natCast_zero] at j0
      simp -dsimp only [go_sem, gi, gn, g2, g6, g8, g75, ia_enc .i64 hi, ld_enc, cf2, yf, j0, j1, b2s_enc]
      have hO : OwnL (S ++ [.cells [.str [], .int .i64 0, .nilS, .str [], .nilS, .int .i64 0, .bool false, .str []], .cells (valL v),
        .cells [.str (at0 v.list 1).bytes, .int .i64 (at0 v.list 2).num, enc (at0 v.list 3).bytes, .str (at0 v.list 4).bytes, y, .int .i64 (at0 v.list 6).num, .bool (decide ((at0 v.list 7).num = 1)), .str (at0 v.list 8).bytes]]) _ y _ := OwnR.own (R := R ++ [.cells (valL l5[i])]) (by simpa using hR.more _)
      simp only [List.append_assoc, List.cons_append, List.nil_append] at hO
      have hml := memsOf_len hms
      refine OwnL.app hO rfl (el_enc _ rfl) ?_ fun y' T' hO' hK hi' => ?_
      · simp only [List.length_singleton]; rw [hml, List.length_take]; omega
      obtain ⟨R', rfl⟩ := hO'.1
      have hR' := hO'.ownR
      have yc := hO'.cells1
      simp only [List.append_assoc, List.cons_append, List.nil_append]
      simp -dsimp only [go_sem, gi, gn, g2, g6, g8, g75, yc]
      exact ⟨y', R', _, rfl, by simpa [memOf] using hR', memsOf_succ hi hms yf⟩
  · rintro g T gi ⟨g2, g6, g8, g75, y, R, ms, rfl, hR, hms⟩
    rw [List.take_length] at hms
    have hml := memsOf_len hms
    have hmx := mems_long h5p hms
    rw [hms] at hr
    simp only [Option.elim_some] at hr
    have hO : OwnL (S ++ [.cells [.str [], .int .i64 0, .nilS, .str [], .nilS, .int .i64 0, .bool false, .str []], .cells (valL v),
        .cells [.str (at0 v.list 1).bytes, .int .i64 (at0 v.list 2).num, enc (at0 v.list 3).bytes, .str (at0 v.list 4).bytes, y, .int .i64 (at0 v.list 6).num, .bool (decide ((at0 v.list 7).num = 1)), .str (at0 v.list 8).bytes]]) _ y _ := OwnR.own (R := R) (by simpa using hR)
    simp only [List.append_assoc, List.cons_append, List.nil_append] at hO
    have cm := cy _ y ms hO.rd (by omega) hmx
    cases ym : mayP (maniOf v.list ms)
    · rw [if_pos (.inl ym)] at hr
      simp -dsimp only [go_sem, gi, g2, g6, g8, g75, cm, ym, F10, r_read28, hr]
      exact fe _ _ (pr _)
    cases yn : decide (1 < (at0 v.list 7).num)
    rotate_left
    · rw [if_pos (.inr (of_decide_eq_true yn))] at hr
      simp -dsimp only [go_sem, gi, g2, g6, g8, g75, cm, ym, i7, yn, F10, r_read28, hr]
      exact fe _ _ (pr _)
    rw [if_neg (fun h => h.elim (fun h => by rw [ym] at h; cases h) (of_decide_eq_false yn))] at hr
    have hid := hO.ids
    have hrd : ∀ o : AObj, rdS (S ++ o :: .cells (valL v) :: .cells [.str (at0 v.list 1).bytes, .int .i64 (at0 v.list 2).num, enc (at0 v.list 3).bytes, .str (at0 v.list 4).bytes, y, .int .i64 (at0 v.list 6).num, .bool (decide ((at0 v.list 7).num = 1)), .str (at0 v.list 8).bytes] :: R) y = some (enc ms) := fun o => by
      have hO2 : OwnL (S ++ [o, .cells (valL v), .cells [.str (at0 v.list 1).bytes, .int .i64 (at0 v.list 2).num, enc (at0 v.list 3).bytes, .str (at0 v.list 4).bytes, y, .int .i64 (at0 v.list 6).num, .bool (decide ((at0 v.list 7).num = 1)), .str (at0 v.list 8).bytes]]) _ y _ := OwnR.own (R := R) (by simpa using hR)
      have := hO2.rd
      simpa only [List.append_assoc, List.cons_append, List.nil_append] using this
    simp -dsimp only [go_sem, gi, g2, g6, g8, g75, cm, ym, i7, yn, F10, r_read28, hr]
    exact conv_pair (pr _) (fun i h => by
      simp only [topIds, topIdsL, enc_top, List.nil_append, List.append_nil] at h
      have := hid i h; simp at this; omega) (rd_mani _ (enc_rdS _ _) (hrd _))
end Go.Proofs.Ytaajlbbooneiiaa.Avm
set_option linter.unusedVariables false
set_option linter.unusedSimpArgs false
set_option maxRecDepth 10000
namespace Go.Proofs.Ytaajlbbooneiiaa.Avm

theorem ok_sameR28 {E : Env} (hp : E.prim 13 = none) (hf : E.F 13 = some F13) (h1 : E.prim 11 = some fun _ => p_bsame) (h2 : E.prim 32 = some fun _ => p_sameR) : OkS E 13 e_sameR28 (gd k_sameR28 r_sameR28) := by
  refine OkS.code hp hf (fun _ => rfl) fun ⟨a, b⟩ ⟨la, lb⟩ => ?_
  have q1 := fun (S : Store) (K : AV → Store → Prop) (q : Dm K) => c_bsame h1 a.prev b.prev la.2.2.2.2 (S := S) (K := K) (d := q)
  have q2 := fun (S : Store) (K : AV → Store → Prop) (q : Dm K) => c_sameR h2 a.members b.members (by have := la.2.2.2.1.1; omega) (S := S) (K := K) (d := q)
  have e : decide (a = b) = (decide (a.folder = b.folder) && (decide (a.seq = b.seq) && (decide (a.prev = b.prev) && (decide (a.parent = b.parent) && (decide (a.members = b.members) && (decide (a.cut = b.cut) && (decide (a.gone = b.gone) && decide (a.by' = b.by')))))))) := by
    simp only [← Bool.decide_and, Mani.ext_iff]
  cases y1 : decide (a.folder = b.folder)
  · simp -dsimp only [go_sem, F13, e_sameR28, r_sameR28, e, q1, q2, y1, Bool.false_and, Bool.true_and]
  cases y2 : decide (a.seq = b.seq)
  · simp -dsimp only [go_sem, F13, e_sameR28, r_sameR28, e, q1, q2, y1, y2, Bool.false_and, Bool.true_and]
  cases y3 : decide (a.prev = b.prev)
  · simp -dsimp only [go_sem, F13, e_sameR28, r_sameR28, e, q1, q2, y1, y2, y3, Bool.false_and, Bool.true_and]
  cases y4 : decide (a.parent = b.parent)
  · simp -dsimp only [go_sem, F13, e_sameR28, r_sameR28, e, q1, q2, y1, y2, y3, y4, Bool.false_and, Bool.true_and]
  cases y5 : decide (a.members = b.members)
  · simp -dsimp only [go_sem, F13, e_sameR28, r_sameR28, e, q1, q2, y1, y2, y3, y4, y5, Bool.false_and, Bool.true_and]
  cases y6 : decide (a.cut = b.cut)
  · simp -dsimp only [go_sem, F13, e_sameR28, r_sameR28, e, q1, q2, y1, y2, y3, y4, y5, y6, Bool.false_and, Bool.true_and]
  have y7' : (a.gone == b.gone) = decide (a.gone = b.gone) := by cases a.gone <;> cases b.gone <;> rfl
  cases y7 : decide (a.gone = b.gone)
  · simp -dsimp only [go_sem, F13, e_sameR28, r_sameR28, e, q1, q2, y1, y2, y3, y4, y5, y6, y7, y7', Bool.false_and, Bool.true_and]
  simp -dsimp only [go_sem, F13, e_sameR28, r_sameR28, e, q1, q2, y1, y2, y3, y4, y5, y6, y7, y7', Bool.false_and, Bool.true_and]
theorem ok_textR28 {E : Env} (hp : E.prim 12 = none) (hf : E.F 12 = some F12) (h2 : E.prim 28 = some fun _ => p_ofR28) (h4 : E.prim 30 = some fun _ => p_numR28) (h5 : E.prim 29 = some fun _ => p_rawR28) (h7 : E.prim 31 = some fun _ => p_bytesR 17) : OkG E 12 e_textR28 (gd k_textR28 r_textR28) := by
  refine OkG.code hp hf (fun _ => rfl) fun m S hk => ?_
  have y1 : mayP m = true := hk
  have hr := right_mani y1
  have hq : MayQ m := of_decide_eq_true y1
  obtain ⟨q1, q2, q3, q4, q5, q6, q7, q8, q9, q10, q11⟩ := hq
  obtain ⟨r1, r2⟩ := right_mem q9
  have l1 := name_len q1
  have l2 := name_len q2
  have l3 : m.parent.length ≤ 12 := by
    rcases q7 with q | q
    · rw [q]; simp
    · exact name_len q
  have sb : ∀ s : Str, s.length ≤ 12 → s2bfA (.str s) = some (enc s) := fun s h => by rw [s2bf_str s (by omega), s2b_enc]
  simp -dsimp only [go_sem, F12, e_textR28, r_textR28]
  refine Ex.count (n := m.members.length) (i0 := 0) (fun i g T => g 1 = .ptr S.length 0 ∧ OwnL (S ++ [.cells (maniL m)]) T (g 3) ((m.members.take i).map memV)) (by decide) (by omega) rfl (by omega) ⟨rfl, OwnL.nil List.prefix_rfl⟩ ?_ ?_ ?_
  · rintro i g T hi gi ⟨g1, hO⟩
    have b1 : T[S.length]? = some (.cells (maniL m)) := prefix_get hO.1 (get_new0 _ _)
    simp -dsimp only [go_sem, gi, g1, b1]
  · rintro i g T hi gi ⟨g1, hO⟩
    have b1 : T[S.length]? = some (.cells (maniL m)) := prefix_get hO.1 (get_new0 _ _)
    have hm := r2 _ (List.getElem_mem hi)
    have sb1 := sb m.members[i].name hm.1
    have co2 : ∀ (T : Store) (K : AV → Store → Prop) (q : Dm K), SpD E 28 [enc [rawV m.members[i].name, numV m.members[i].role]] T K q = K (.agg [.int .i64 3, .int .i64 0, enc ([] : List UInt8), enc [rawV m.members[i].name, numV m.members[i].role]]) T := fun T K q => c_ofR28 h2 _
    simp -dsimp only [go_sem, gi, g1]
    refine ExF.intro ?_
    simp -dsimp only [go_sem, gi, g1, b1, ia_enc .i64 hi, c_mem, sb1, c_rawR28 h5, c_numR28 h4, valL, enc_rn, co2, enc_l1]
    refine OwnL.app hO rfl (el_enc _ rfl) ?_ fun y' T' hO' hK hi' => ?_
    · simp only [List.length_singleton, List.length_map, List.length_take]; omega
    simp -dsimp only [go_sem, gi, g1]
    refine ⟨?_, ?_⟩
    · rw [List.take_succ_eq_append_getElem hi, List.map_append]; simpa [memV] using hO'
    · (repeat' (first | exact fl_ld rfl rfl rfl rfl (flLd_n _ _ _ _ _ _ (by simp -dsimp only [go_sem, gi, g1, b1, ia_enc .i64 hi, c_mem])) | exact fl_b2s rfl rfl rfl rfl (by simp -dsimp only [go_sem, gi, g1, b1, ia_enc .i64 hi, c_mem]) | apply And.intro))
  · rintro g T gi ⟨g1, hO⟩
    rw [List.take_length] at hO
    have b1 : T[S.length]? = some (.cells (maniL m)) := prefix_get hO.1 (get_new0 _ _)
    have sb1 := sb m.folder l1
    have sb2 := sb m.parent l3
    have sb3 := sb m.by' l2
    have hrd := hO.rd
    have hids := hO.ids
    obtain ⟨R, rfl⟩ := hO.1
    simp only [List.append_assoc, List.cons_append, List.nil_append] at hO hrd b1 ⊢
    obtain ⟨y, hy⟩ : ∃ y, g 3 = y := ⟨_, rfl⟩
    rw [hy] at hO hrd hids
    have co3 := fun (K : AV → Store → Prop) (q : Dm K) => c_ofR28' h2 hrd (K := K) (d := q)
    have b2 : (killL (topIdsL [y]) (S ++ AObj.cells (maniL m) :: R))[S.length]? = some (.cells (maniL m)) := by
      rw [killL_ne _ _ _ (fun h => by
        simp only [topIdsL, List.append_nil] at h
        have := hids _ h; rw [List.length_append, List.length_singleton] at this; omega), get_new0]; rfl
    have hpk : S <+: killL (topIdsL [y]) (S ++ AObj.cells (maniL m) :: R) := prefix_kill (List.prefix_append _ _) _ fun i h => by
      simp only [topIdsL, List.append_nil] at h
      have := hids _ h; simp at this; omega
    have hmark : AV.csl [.int .u8 109, .int .u8 97, .int .u8 110, .int .u8 105, .int .u8 102, .int .u8 101, .int .u8 115, .int .u8 116] 8 = enc markM := rfl
    have co4 : ∀ (T : Store) (K : AV → Store → Prop) (q : Dm K), SpD E 28 [enc (maniVs m)] T K q = K (.agg (valL (maniV m))) T := fun T K q => c_ofR28 h2 _
    have cb := fun (T : Store) (K : AV → Store → Prop) (q : Dm K) => c_bytesR h7 (maniV m) ⟨hr.1, by have := hr.2.1; omega, by have := hr.2.2; omega⟩ (S := T) (K := K) (d := q)
    have em := (enc_mani m).symm
    cases yg : m.gone
    all_goals
      simp only [yg, Bool.false_eq_true, if_false, if_true] at em b1 b2
      simp -dsimp only [go_sem, gi, g1, b1, b2, yg]
      refine ExF.intro ?_
      simp -dsimp only [go_sem, gi, g1, b1, b2, yg, hy, sb1, sb2, sb3, hmark, c_rawR28 h5, c_numR28 h4, valL, co3, em, co4]
      simp -dsimp only [go_sem, cb, F12]
      refine ⟨Conv.good hpk (fun i h => by simp [enc_top] at h) (enc_rdS _ _), ?_⟩
      (repeat' (first | exact fl_ld rfl rfl rfl rfl (flLd_n _ _ _ _ _ _ (by simp -dsimp only [go_sem, g1, b1, b2, yg])) | exact fl_b2s rfl rfl rfl rfl (by simp -dsimp only [go_sem, g1, b1, b2, yg]) | apply And.intro))
end Go.Proofs.Ytaajlbbooneiiaa.Avm
set_option linter.unusedVariables false
set_option linter.unusedSimpArgs false
set_option maxRecDepth 10000
namespace Go.Proofs.Ytaajlbbooneiiaa.Avm

theorem mems_back : ∀ l : List Mem, memsOf (l.map memV) = some l
  | [] => rfl
  | x :: l => by
    have hf : (fieldsP (memV x) ks2).2 = true := by simp [fieldsP, memV, listV, rawV, numV, Val.kind, Val.list, ks2]
    have hm : memOf (memV x) = x := rfl
    rw [List.map_cons, memsOf, if_pos hf, mems_back l, hm]; rfl
theorem maniOf_back (m : Mani) : maniOf (maniVs m) m.members = m := by
  have : decide (goneN m = 1) = m.gone := by unfold goneN; cases m.gone <;> rfl
  show Mani.mk m.folder m.seq m.prev m.parent m.members m.cut (decide (goneN m = 1)) m.by' = m
  rw [this]
theorem fields9 (m : Mani) : (fieldsP (maniV m) ks9).2 = true := by simp [fieldsP, maniV, maniVs, listV, rawV, numV, Val.kind, Val.list, ks9]
theorem read_text {m : Mani} (h : mayP m = true) : readM (bytesA (maniV m)) = (m, 0) := by
  have hg : ¬ 1 < goneN m := by unfold goneN; cases m.gone <;> simp
  rw [readM, decode_put (right_mani h)]
  unfold readD
  rw [if_neg (by simp), if_neg (fun q => q.elim (fun q => by rw [fields9] at q; cases q) fun q => q rfl)]
  show (memsOf (m.members.map memV)).elim _ _ = _
  rw [mems_back]
  show (if mayP (maniOf (maniVs m) m.members) = false ∨ 1 < goneN m then _ else _) = _
  rw [maniOf_back, if_neg (fun q => q.elim (fun q => by rw [h] at q; cases q) hg)]
  exact congrArg (fun x => (x, (0 : Int))) (maniOf_back m)
theorem ok_manifestText {E : Env} (hp : E.prim 3 = none) (hf : E.F 3 = some F3) (h1 : E.prim 5 = some fun _ => p_awake28) (h2 : E.prim 6 = some fun _ => p_fewM)
    (h3 : E.prim 7 = some fun _ => p_text28) (h4 : E.prim 8 = some fun _ => p_mayR) (h5 : E.prim 9 = some fun _ => p_begins) (h6 : E.prim 10 = some fun _ => p_read28)
    (h7 : E.prim 12 = some fun _ => p_textR28) (h8 : E.prim 11 = some fun _ => p_bsame) (h9 : E.prim 13 = some fun _ => p_sameR28) : OkS E 3 e_manifestText (gd k_manifestText r_manifestText) := by
  refine OkS.code hp hf (fun _ => rfl) fun m hk => ?_
  have cf : ∀ (S : Store) (K : AV → Store → Prop) (d : Dm K), SpD E 6 [.agg (maniL m)] S K d = K (.bool (fewM m)) S := fun _ _ _ => c_fewM h2 m hk
  cases y1 : fewM m
  · simp -dsimp only [go_sem, F3, e_manifestText, r_manifestText, c_awake28 h1, cf, y1]
  have lm := fewM_long y1
  have ct : ∀ (S : Store) (K : AV → Store → Prop) (d : Dm K), SpD E 7 [.agg (maniL m)] S K d = K (.tup [enc (textP m).1, .int .i64 (textP m).2]) S := fun _ _ _ => c_text28 h3 m lm
  have cm : ∀ (S : Store) (K : AV → Store → Prop) (d : Dm K), SpD E 8 [.agg (maniL m)] S K d = K (.bool (mayP m)) S := fun _ _ _ => c_mayR h4 m lm
  have cb : ∀ (S : Store) (K : AV → Store → Prop) (d : Dm K), SpD E 9 [.agg (maniL m)] S K d = K (.int .i64 (beginsP m)) S := fun _ _ _ => c_begins h5 m lm
  cases y2 : mayP m
  · have ht : textP m = ([], 2) := if_neg (by simp [y2])
    have hb : beginsP m = 2 := by unfold beginsP; rw [if_pos (by simp [y2])]
    simp -dsimp only [go_sem, F3, e_manifestText, r_manifestText, c_awake28 h1, cf, y1, ct, ht, cm, y2, cb, hb]
  · have ht : textP m = (bytesA (maniV m), 0) := if_pos y2
    have hr := read_text y2
    have hl := (right_mani y2).2.2
    have cr : ∀ (S : Store) (K : AV → Store → Prop) (d : Dm K), SpD E 10 [enc (bytesA (maniV m))] S K d = K (.tup [.agg (maniL (readM (bytesA (maniV m))).1), .int .i64 (readM (bytesA (maniV m))).2]) S := fun _ _ _ => c_read28 h6 _
    rw [hr] at cr
    have cx : ∀ (S : Store) (K : AV → Store → Prop) (d : Dm K), SpD E 12 [.agg (maniL m)] S K d = K (enc (bytesA (maniV m))) S := fun _ _ _ => c_textR28 h7 m y2
    have cs : ∀ (S : Store) (K : AV → Store → Prop) (d : Dm K), SpD E 13 [.agg (maniL m), .agg (maniL m)] S K d = K (.bool (decide (m = m))) S := fun _ _ _ => c_sameR28 h9 m m ⟨lm, lm⟩
    have cbs := fun (S : Store) (K : AV → Store → Prop) (d : Dm K) => c_bsame h8 (bytesA (maniV m)) (bytesA (maniV m)) (by omega) (S := S) (K := K) (d := d)
    simp only [decide_true] at cs cbs
    simp -dsimp only [go_sem, F3, e_manifestText, r_manifestText, c_awake28 h1, cf, y1, ct, ht, cm, y2, cr, cx, cs, cbs]
end Go.Proofs.Ytaajlbbooneiiaa.Avm
set_option linter.unusedVariables false
set_option maxRecDepth 100000
namespace Go.Proofs.Ytaajlbbooneiiaa.Avm
open Go
theorem hmix : Try.prog.follows .mixedOrders = true := by kernel_rfl
def tab0 : List (Nat × AFunc) := [(3, F3), (4, F4), (5, F5), (6, F6), (7, F7), (8, F8), (9, F9), (10, F10), (11, F11), (12, F12), (13, F13), (14, F14), (15, F15), (16, F16), (17, F17), (18, F18), (19, F19), (20, F20), (21, F21), (22, F22), (23, F23), (24, F24), (25, F25), (26, F26), (27, F27), (28, F28), (29, F29), (30, F30), (31, F31), (32, F32), (33, F33), (34, F34), (35, F35), (36, F36), (37, F37), (38, F38), (39, F39), (40, F40), (41, F41), (42, F42), (43, F43), (44, F44), (45, F45), (46, F46), (47, F47), (48, F48), (49, F49), (50, F50), (51, F51), (52, F52), (53, F53), (54, F54), (55, F55), (56, F56), (57, F57), (58, F58), (59, F59), (60, F60), (61, F61)]
def E0 : Env := ⟨tabF tab0, fun _ => none⟩
theorem tab_ok : TabOK Try.prog tab0 := .cons Try.func3 C3 (.cons Try.func4 C4 (.cons Try.func5 C5 (.cons Try.func6 C6 (.cons Try.func7 C7 (.cons Try.func8 C8 (.cons Try.func9 C9 (.cons Try.func10 C10 (.cons Try.func11 C11 (.cons Try.func12 C12 (.cons Try.func13 C13 (.cons Try.func14 C14 (.cons Try.func15 C15 (.cons Try.func16 C16 (.cons Try.func17 C17 (.cons Try.func18 C18 (.cons Try.func19 C19 (.cons Try.func20 C20 (.cons Try.func21 C21 (.cons Try.func22 C22 (.cons Try.func23 C23 (.cons Try.func24 C24 (.cons Try.func25 C25 (.cons Try.func26 C26 (.cons Try.func27 C27 (.cons Try.func28 C28 (.cons Try.func29 C29 (.cons Try.func30 C30 (.cons Try.func31 C31 (.cons Try.func32 C32 (.cons Try.func33 C33 (.cons Try.func34 C34 (.cons Try.func35 C35 (.cons Try.func36 C36 (.cons Try.func37 C37 (.cons Try.func38 C38 (.cons Try.func39 C39 (.cons Try.func40 C40 (.cons Try.func41 C41 (.cons Try.func42 C42 (.cons Try.func43 C43 (.cons Try.func44 C44 (.cons Try.func45 C45 (.cons Try.func46 C46 (.cons Try.func47 C47 (.cons Try.func48 C48 (.cons Try.func49 C49 (.cons Try.func50 C50 (.cons Try.func51 C51 (.cons Try.func52 C52 (.cons Try.func53 C53 (.cons Try.func54 C54 (.cons Try.func55 C55 (.cons Try.func56 C56 (.cons Try.func57 C57 (.cons Try.func58 C58 (.cons Try.func59 C59 (.cons Try.func60 C60 (.cons Try.func61 C61 (.nil)))))))))))))))))))))))))))))))))))))))))))))))))))))))))))
theorem A0 : AllOK Try.prog E0 := tab_ok.allOK
theorem awake_run : (run E0 80 5 [] []).map (·.1) = some (.bool true) := by kernel_rfl
theorem awake_is (a : Unit) (v : AV) (h : gd k_awake28 r_awake28 a = some v) : ∃ N S1, run E0 N 5 (e_awake28 a) [] = some (v, S1) := by
  obtain ⟨_, rfl⟩ := gd_inv h
  obtain ⟨p, h1, h2⟩ := Option.map_eq_some_iff.1 awake_run
  exact ⟨80, p.2, by rw [show e_awake28 a = [] from rfl, h1]; exact congrArg some (Prod.ext h2 rfl)⟩
end Go.Proofs.Ytaajlbbooneiiaa.Avm
