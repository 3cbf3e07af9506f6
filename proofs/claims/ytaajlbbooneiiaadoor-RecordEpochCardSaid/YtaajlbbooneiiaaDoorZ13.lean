/- Manifests as values: what the functions of their texts answer; their texts. Specs: texts of manifests read; the document's texts. Records: blobs padded; functions' contracts. The arguments' shapes of the record laws; laws that list variables. The abstract functions are the seat's. Records: the functions of the seat; the chapter's example; blobs padded. Records: the functions that pad. The law of padded blobs. -/
import Derived.Test.YtaajlbbooneiiaaDoorZ12
import Derived.Test.YtaajlbbooneiiaaDoorZ8
import Derived.Test.YtaajlbbooneiiaaDoorRows
import Derived.Test.YtaajlbbooneiiaaDoorTie
import Derived.Test.YtaajlbbooneiiaaDoorCards
import Derived.LaidMore
import Derived.OpenShut
import Derived.SevenTiedAt
import Derived.Test.YtaajlbbooneiiaaDoorZ2
import Derived.Test.YtaajlbbooneiiaaDoorZ9
import Derived.Test.YtaajlbbooneiiaaDoorProg
import Derived.KernelRfl
set_option linter.unusedVariables false
set_option linter.unusedSimpArgs false
set_option maxRecDepth 10000
namespace Go.Proofs.YtaajlbbooneiiaaDoor.Avm

def rawV (b : List UInt8) : Val := .mk 2 0 b []
def numV (n : Int) : Val := .mk 1 n [] []
def listV (l : List Val) : Val := .mk 3 0 [] l
def memV (x : Mem) : Val := listV [rawV x.name, numV x.role]
def markM : List UInt8 := [109, 97, 110, 105, 102, 101, 115, 116]
def goneN (m : Mani) : Int := if m.gone = true then 1 else 0
def maniVs (m : Mani) : List Val := [rawV markM, rawV m.folder, numV m.seq, rawV m.prev, rawV m.parent, listV (m.members.map memV), numV m.cut, numV (goneN m), rawV m.by']
def maniV (m : Mani) : Val := listV (maniVs m)
def textP (m : Mani) : List UInt8 × Int := if mayP m = true then (bytesA (maniV m), 0) else ([], 2)
def ks9 : List Int := [2, 2, 1, 2, 2, 3, 1, 1, 2]
def ks2 : List Int := [2, 1]
def mani0 : Mani := ⟨[], 0, [], [], [], 0, false, []⟩
def at0 (l : List Val) (i : Nat) : Val := l.getD i nul
def memOf (x : Val) : Mem := ⟨(at0 x.list 0).bytes, (at0 x.list 1).num⟩
def memsOf : List Val → Option (List Mem)
  | [] => some []
  | x :: l => if (fieldsP x ks2).2 = true then (memsOf l).map (memOf x :: ·) else none
def maniOf (l : List Val) (ms : List Mem) : Mani := ⟨(at0 l 1).bytes, (at0 l 2).num, (at0 l 3).bytes, (at0 l 4).bytes, ms, (at0 l 6).num, decide ((at0 l 7).num = 1), (at0 l 8).bytes⟩
def readD (d : Val × Int) : Mani × Int :=
  if d.2 ≠ 0 then (mani0, d.2)
  else if (fieldsP d.1 ks9).2 = false ∨ (at0 d.1.list 0).bytes ≠ markM then (mani0, 11)
  else (memsOf (at0 d.1.list 5).list).elim (mani0, 11) fun ms => if mayP (maniOf d.1.list ms) = false ∨ 1 < (at0 d.1.list 7).num then (mani0, 11) else (maniOf d.1.list ms, 0)
def readM (b : List UInt8) : Mani × Int := readD (decodeP b)
deriving instance DecidableEq for Mani

/-! ### what may be is right -/
theorem len_raw {b : List UInt8} (h : b.length ≤ 1048576) : (bytesA (rawV b)).length = 4 + b.length := by
  rw [rawV, bytesA_2]; simp only [List.length_cons, List.length_append, put_len3 h]; omega
theorem len_num (n : Int) : (bytesA (numV n)).length ≤ 10 := by
  rw [numV, bytesA_1]; have := plain_len n; simp only [List.length_cons]; omega
theorem len_list {l : List Val} (h : l.length ≤ 4096) : (bytesA (listV l)).length = 3 + (bytesAL l).length := by
  rw [listV, bytesA_3 _ _ _ (by decide) (by decide)]; simp only [List.length_cons, List.length_append, put_len2 h]; omega
theorem pure_raw {b : List UInt8} (h : b.length ≤ 1048576) : pureA (rawV b) = true := by simp [rawV, pureA, pure1, pureAL, Val.kind, Val.num, Val.bytes, Val.list, h]
theorem pure_num {n : Int} (h0 : 0 ≤ n) (h1 : n ≤ 4611686018427387904) : pureA (numV n) = true := by simp [numV, pureA, pure1, pureAL, Val.kind, Val.num, Val.bytes, Val.list, h0, h1]
theorem pure_list {l : List Val} (h : l.length ≤ 4096) (k : ∀ w, w ∈ l → pureA w = true) : pureA (listV l) = true := by simp [listV, pureA, pure1, Val.kind, Val.num, Val.bytes, Val.list, h, pureAL_of k]
theorem deep_list {l : List Val} {d : Nat} (k : ∀ w, w ∈ l → deepA w ≤ d) : deepA (listV l) ≤ d + 1 := by
  have h : ∀ l : List Val, (∀ w, w ∈ l → deepA w ≤ d) → deepAL l ≤ d := fun l => by
    induction l with
    | nil => intro _; simp [deepAL]
    | cons v l ih => intro h; simp only [deepAL]; have := h v List.mem_cons_self; have := ih fun w hw => h w (List.mem_cons_of_mem _ hw); omega
  simp only [listV, deepA, if_true]; have := h l k; omega
theorem deep_raw (b : List UInt8) : deepA (rawV b) = 0 := by simp [rawV, deepA]
theorem deep_num (n : Int) : deepA (numV n) = 0 := by simp [numV, deepA]
theorem bytesAL_le {l : List Val} {c : Nat} (h : ∀ w, w ∈ l → (bytesA w).length ≤ c) : (bytesAL l).length ≤ l.length * c := by
  induction l with
  | nil => simp [bytesAL]
  | cons v l ih =>
    have h1 := h v List.mem_cons_self
    have h2 := ih fun w hw => h w (List.mem_cons_of_mem _ hw)
    simp only [bytesAL, List.length_append, List.length_cons, Nat.add_mul, Nat.one_mul]; omega
theorem name_len {s : Str} (h : nameOk s = true) : s.length ≤ 12 := by simp only [nameOk, Bool.and_eq_true, decide_eq_true_eq] at h; omega
theorem okFrom_mem {p : Option Str} {l : List Mem} (h : okFrom p l = true) : ∀ x, x ∈ l → nameOk x.name = true ∧ isRole x.role = true := ((okFrom_iff p l).1 h).1
theorem right_mem {l : List Mem} (h : rightP l = true) : l.length ≤ 8 ∧ ∀ x, x ∈ l → x.name.length ≤ 12 ∧ 1 ≤ x.role ∧ x.role ≤ 4 := by
  simp only [rightP, Bool.and_eq_true, decide_eq_true_eq] at h
  refine ⟨h.1.2, fun x hx => ?_⟩
  obtain ⟨h1, h2⟩ := okFrom_mem h.1.1 x hx
  simp only [isRole, decide_eq_true_eq] at h2
  exact ⟨name_len h1, h2⟩
theorem right_memV {x : Mem} (h : x.name.length ≤ 12 ∧ 1 ≤ x.role ∧ x.role ≤ 4) : pureA (memV x) = true ∧ deepA (memV x) ≤ 1 ∧ (bytesA (memV x)).length ≤ 29 := by
  refine ⟨pure_list (by simp) fun w hw => ?_, deep_list (d := 0) fun w hw => ?_, ?_⟩
  · simp only [List.mem_cons, List.not_mem_nil, or_false] at hw
    rcases hw with rfl | rfl
    · exact pure_raw (by omega)
    · exact pure_num (by omega) (by omega)
  · simp only [List.mem_cons, List.not_mem_nil, or_false] at hw
    rcases hw with rfl | rfl
    · rw [deep_raw]; exact Nat.le_refl _
    · rw [deep_num]; exact Nat.le_refl _
  · have h1 := len_raw (b := x.name) (by omega)
    have h2 := len_num x.role
    rw [memV, len_list (by simp)]
    simp only [bytesAL, List.length_append, List.length_nil]; omega
theorem right_mani {m : Mani} (h : mayP m = true) : rightV (maniV m) := by
  have hq : MayQ m := of_decide_eq_true h
  obtain ⟨q1, q2, q3, q4, q5, q6, q7, q8, q9, q10, q11⟩ := hq
  obtain ⟨r1, r2⟩ := right_mem q9
  have l1 := name_len q1
  have l2 := name_len q2
  have l3 : m.parent.length ≤ 12 := by
    rcases q7 with q | q
    · rw [q]; simp
    · exact name_len q
  have hg : goneN m = 0 ∨ goneN m = 1 := by unfold goneN; cases m.gone <;> simp
  have hms : ∀ w, w ∈ m.members.map memV → pureA w = true ∧ deepA w ≤ 1 ∧ (bytesA w).length ≤ 29 := fun w hw => by
    obtain ⟨x, hx, rfl⟩ := List.mem_map.1 hw
    exact right_memV (r2 x hx)
  have hml : (m.members.map memV).length ≤ 8 := by simpa using r1
  have hmb := bytesAL_le (l := m.members.map memV) (c := 29) fun w hw => (hms w hw).2.2
  have hmb2 := Nat.mul_le_mul_right 29 hml
  refine ⟨pure_list (by simp [maniVs]) fun w hw => ?_, Nat.le_trans (deep_list (d := 2) fun w hw => ?_) (by omega), ?_⟩
  · simp only [maniVs, List.mem_cons, List.not_mem_nil, or_false] at hw
    rcases hw with rfl | rfl | rfl | rfl | rfl | rfl | rfl | rfl | rfl
    · exact pure_raw (by simp [markM])
    · exact pure_raw (by omega)
    · exact pure_num (by omega) (by omega)
    · exact pure_raw (by omega)
    · exact pure_raw (by omega)
    · exact pure_list (by omega) fun w hw => (hms w hw).1
    · exact pure_num (by omega) (by omega)
    · exact pure_num (by omega) (by omega)
    · exact pure_raw (by omega)
  · simp only [maniVs, List.mem_cons, List.not_mem_nil, or_false] at hw
    rcases hw with rfl | rfl | rfl | rfl | rfl | rfl | rfl | rfl | rfl <;> first | (rw [deep_raw]; omega) | (rw [deep_num]; omega) | exact deep_list fun w hw => (hms w hw).2.1
  · have h1 := len_raw (b := markM) (by simp [markM])
    have h1' : markM.length = 8 := rfl
    have h2 := len_raw (b := m.folder) (by omega)
    have h3 := len_num m.seq
    have h4 := len_raw (b := m.prev) (by omega)
    have h5 := len_raw (b := m.parent) (by omega)
    have h6 := len_list (l := m.members.map memV) (by omega)
    have h7 := len_num m.cut
    have h8 := len_num (goneN m)
    have h9 := len_raw (b := m.by') (by omega)
    rw [maniV, len_list (by simp [maniVs])]
    simp only [maniVs, bytesAL, List.length_append, List.length_nil]; omega

/-! ### walks -/
theorem s2b_enc (s : Str) : AV.csl (s.map fun c => .int .u8 c.toNat) s.length = enc s := by
  rw [enc]; congr 1
  induction s with
  | nil => rfl
  | cons c s ih => rw [List.map_cons, cl_cons, ← ih]; rfl
theorem prefix_kill {S T : Store} (h : S <+: T) : ∀ (ids : List Nat), (∀ i, i ∈ ids → S.length ≤ i) → S <+: killL ids T
  | [], _ => h
  | i :: ids, hi => by
    rw [killL_cons]
    have h2 := prefix_set h (hi i (by simp)) AObj.dead
    exact prefix_kill h2 ids fun j hj => hi j (by simp [hj])
theorem enc_two (a b : Val) : AV.csl [.int .i64 a.kind, .int .i64 a.num, enc a.bytes, enc a.list, .int .i64 b.kind, .int .i64 b.num, enc b.bytes, enc b.list] 2 = enc [a, b] := by
  simp only [enc, cl_cons, cl_nil, c_val, List.length_cons, List.length_nil]; rfl
theorem enc_rn (s : Str) (n : Int) : AV.csl [.int .i64 2, .int .i64 0, enc s, enc ([] : List Val), .int .i64 1, .int .i64 n, enc ([] : List UInt8), enc ([] : List Val)] 2 = enc [rawV s, numV n] := enc_two (rawV s) (numV n)
theorem enc_l1 (l : List Val) : AV.csl [.int .i64 3, .int .i64 0, enc ([] : List UInt8), enc l] 1 = enc [listV l] := csl_v1 (listV l)
theorem enc_mani (m : Mani) : enc (maniVs m) = .csl [.int .i64 2, .int .i64 0, enc markM, enc ([] : List Val), .int .i64 2, .int .i64 0, enc m.folder, enc ([] : List Val),
        .int .i64 1, .int .i64 m.seq, enc ([] : List UInt8), enc ([] : List Val), .int .i64 2, .int .i64 0, enc m.prev, enc ([] : List Val), .int .i64 2, .int .i64 0, enc m.parent, enc ([] : List Val), .int .i64 3, .int .i64 0, enc ([] : List UInt8), enc (m.members.map memV),
        .int .i64 1, .int .i64 m.cut, enc ([] : List UInt8), enc ([] : List Val), .int .i64 1, .int .i64 (if m.gone = true then 1 else 0), enc ([] : List UInt8), enc ([] : List Val), .int .i64 2, .int .i64 0, enc m.by', enc ([] : List Val)] 9 := by
  rw [enc]
  simp only [maniVs, cl_cons, cl_nil, c_val, valL, rawV, numV, listV, goneN, k_mk, n_mk, b_mk, l_mk, List.length_cons, List.length_nil]
  rfl
@[go_sem] theorem k_raw (b : List UInt8) : (rawV b).kind = 2 := rfl
@[go_sem] theorem n_raw (b : List UInt8) : (rawV b).num = 0 := rfl
@[go_sem] theorem b_raw (b : List UInt8) : (rawV b).bytes = b := rfl
@[go_sem] theorem l_raw (b : List UInt8) : (rawV b).list = [] := rfl
end Go.Proofs.YtaajlbbooneiiaaDoor.Avm
set_option linter.unusedVariables false
set_option linter.unusedSimpArgs false
set_option maxRecDepth 10000
namespace Go.Proofs.YtaajlbbooneiiaaDoor.Avm

theorem b2s_enc (S : Store) (l : List UInt8) : b2sA S (enc l) = some (.str l) := by
  have := el_enc (S := S) l (sz := 1) rfl
  simp only [b2sA, enc] at this ⊢
  rw [this]
  simp only [Option.bind_some, asBytes_cl, Option.map_some]
theorem fields_len {v : Val} {ks : List Int} (h : (fieldsP v ks).2 = true) : (fieldsP v ks).1 = v.list ∧ v.list.length = ks.length ∧ v.kind = 3 ∧ v.list.map (·.kind) = ks := by
  unfold fieldsP at h ⊢
  split at h
  · rename_i hh; rw [if_pos hh]; exact ⟨rfl, by rw [← hh.2]; simp, hh.1, hh.2⟩
  · cases h
theorem at0_get {l : List Val} {i : Nat} (h : i < l.length) : l[i] = at0 l i := by rw [at0, List.getD_eq_getElem?_getD, List.getElem?_eq_getElem h]; rfl
theorem ia_at {l : List Val} {i : Nat} (h : i < l.length) (k : IntKind) : iaddrA 4 (enc l) (.int k i) = some (.cptr (.int .i64 (at0 l i).kind :: .int .i64 (at0 l i).num :: enc (at0 l i).bytes :: enc (at0 l i).list :: cl (l.drop (i + 1)))) := by
  have := ia_enc (sz := 4) (l := l) (i := i) k h rfl
  rw [this, at0_get h, c_val]; rfl
theorem memsOf_len : ∀ {l : List Val} {ms : List Mem}, memsOf l = some ms → ms.length = l.length
  | [], ms, h => by simp only [memsOf, Option.some.injEq] at h; subst h; rfl
  | x :: l, ms, h => by
    simp only [memsOf] at h
    split at h
    · obtain ⟨m, h1, rfl⟩ := Option.map_eq_some_iff.1 h
      simp [memsOf_len h1]
    · cases h
theorem memsOf_app {l m : List Val} {ms : List Mem} (h : memsOf l = some ms) : memsOf (l ++ m) = (memsOf m).map (ms ++ ·) := by
  induction l generalizing ms with
  | nil => simp only [memsOf, Option.some.injEq] at h; subst h; simp
  | cons x l ih =>
    simp only [memsOf, List.cons_append] at h ⊢
    split at h
    · rename_i hx
      obtain ⟨m', h1, rfl⟩ := Option.map_eq_some_iff.1 h
      rw [if_pos hx, ih h1]
      cases memsOf m <;> rfl
    · cases h
theorem memsOf_one (x : Val) : memsOf [x] = if (fieldsP x ks2).2 = true then some [memOf x] else none := by
  simp only [memsOf]; split <;> rfl
theorem memsOf_bad {l : List Val} {i : Nat} {ms : List Mem} (hi : i < l.length) (h : memsOf (l.take i) = some ms) (hx : (fieldsP l[i] ks2).2 = false) : memsOf l = none := by
  have e : l = l.take i ++ (l[i] :: l.drop (i + 1)) := by rw [← List.drop_eq_getElem_cons hi, List.take_append_drop]
  rw [e, memsOf_app h, memsOf, if_neg (by simp [hx])]; rfl
theorem memsOf_succ {l : List Val} {i : Nat} {ms : List Mem} (hi : i < l.length) (h : memsOf (l.take i) = some ms) (hx : (fieldsP l[i] ks2).2 = true) : memsOf (l.take (i + 1)) = some (ms ++ [memOf l[i]]) := by
  rw [List.take_succ_eq_append_getElem hi, memsOf_app h, memsOf_one, if_pos hx]; rfl
theorem pureA_list {v : Val} (h : pureA v = true) : ∀ w, w ∈ v.list → pureA w = true := by
  cases v with
  | mk k n b l =>
    simp only [pureA, Bool.and_eq_true] at h
    exact pureAL_mem h.2
theorem pureA_1 {v : Val} (h : pureA v = true) : pure1 v = true := by
  cases v with
  | mk k n b l => simp only [pureA, Bool.and_eq_true] at h; exact h.1
theorem pure_llen {v : Val} (h : pureA v = true) : v.list.length ≤ 4096 ∧ v.bytes.length ≤ 1048576 := by
  have h := pureA_1 h
  by_cases k1 : v.kind = 1
  · have := pure1_1 h k1; omega
  by_cases k2 : v.kind = 2
  · have := pure1_2 h k2; omega
  have := pure1_3 h k1 k2; omega
theorem pure_at {l : List Val} (h : ∀ w, w ∈ l → pureA w = true) (i : Nat) : pureA (at0 l i) = true ∨ at0 l i = nul := by
  by_cases hi : i < l.length
  · rw [← at0_get hi]; exact .inl (h _ (List.getElem_mem hi))
  · refine .inr ?_; rw [at0, List.getD_eq_getElem?_getD, List.getElem?_eq_none (by omega)]; rfl
theorem at_len {l : List Val} (h : ∀ w, w ∈ l → pureA w = true) (i : Nat) : (at0 l i).list.length ≤ 4096 ∧ (at0 l i).bytes.length ≤ 1048576 := by
  rcases pure_at h i with h | h
  · exact pure_llen h
  · rw [h]; decide
theorem at_list {l : List Val} (h : ∀ w, w ∈ l → pureA w = true) (i : Nat) : ∀ w, w ∈ (at0 l i).list → pureA w = true := by
  rcases pure_at h i with h | h
  · exact pureA_list h
  · rw [h]; intro w hw; cases hw
theorem mems_long {l : List Val} (h : ∀ w, w ∈ l → pureA w = true) {ms : List Mem} (hm : memsOf l = some ms) : ∀ x, x ∈ ms → x.name.length ≤ 1048576 := by
  induction l generalizing ms with
  | nil => simp only [memsOf, Option.some.injEq] at hm; subst hm; intro x hx; cases hx
  | cons v l ih =>
    simp only [memsOf] at hm
    split at hm
    · obtain ⟨m', h1, rfl⟩ := Option.map_eq_some_iff.1 hm
      intro x hx
      cases hx with
      | head => exact (at_len (pureA_list (h v List.mem_cons_self)) 0).2
      | tail _ hx => exact ih (fun w hw => h w (List.mem_cons_of_mem _ hw)) h1 x hx
    · cases hm
theorem maniOf_long {l : List Val} {ms : List Mem} (h : ∀ w, w ∈ l → pureA w = true) (hm : ms.length ≤ 4096) (hx : ∀ x, x ∈ ms → x.name.length ≤ 1048576) : longM (maniOf l ms) := by
  have h1 := at_len h 1
  have h3 := at_len h 3
  have h4 := at_len h 4
  have h8 := at_len h 8
  exact ⟨by simp only [maniOf]; omega, by simp only [maniOf]; omega, by simp only [maniOf]; omega, ⟨by simp only [maniOf]; omega, fun x hxm => by have := hx x hxm; omega⟩, by simp only [maniOf]; omega⟩
def maniA (a : Str) (b : Int) (c : AV) (d : Str) (y : AV) (e : Int) (f : Bool) (g : Str) : List AV := [.str a, .int .i64 b, c, .str d, y, .int .i64 e, .bool f, .str g]
theorem rd_mani (T : Store) {a d g : Str} {b e : Int} {f : Bool} {c y : AV} {cb : List UInt8} {ms : List Mem} (hc : rdS T c = some (enc cb)) (hy : rdS T y = some (enc ms)) : rdS T (.agg [.str a, .int .i64 b, c, .str d, y, .int .i64 e, .bool f, .str g]) = some (.agg (maniL ⟨a, b, cb, d, ms, e, f, g⟩)) := by
  simp only [rdS, rdSL, rd0, hc, hy, Option.bind_some, Option.map_some]
end Go.Proofs.YtaajlbbooneiiaaDoor.Avm
set_option linter.unusedVariables false
set_option linter.unusedSimpArgs false
set_option maxRecDepth 10000
namespace Go.Proofs.YtaajlbbooneiiaaDoor.Avm

/-- a contract of another environment -/
theorem AllOK.move {P : Program} {E E1 : Env} (hE : AllOK P E) (hE1 : AllOK P E1) {f : Nat} {p : List AV → Store → Option (AV × Store)} (h : E1.prim f = some fun _ => p) : AllOK P (E.add f p) := fun w0 =>
  { fn := (hE w0).fn
    prim := fun g q hq cf hcf args S v S' hp φ w vs hr hv => by
      simp only [Env.add] at hq
      split at hq
      · rename_i hg; subst hg; cases hq
        exact (hE1 w0).prim g _ h cf hcf args S v S' hp φ w vs hr hv
      · exact (hE w0).prim g q hq cf hcf args S v S' hp φ w vs hr hv }

/-! ### what the functions answer -/
def padB (b : List UInt8) (n : Nat) : List UInt8 := UInt8.ofNat (b.length / 256) :: UInt8.ofNat (b.length % 256) :: (b ++ List.replicate (n - 2 - b.length) 0)
def padP (b : List UInt8) (n : Int) : List UInt8 × Int := if ¬ n = 120 ∧ ¬ n = 1020 then ([], 2) else if n - 2 < (b.length : Int) then ([], 3) else (padB b n.toNat, 0)
def szP (b : List UInt8) : Nat := ofBE (b.take 2)
def unpadP (b : List UInt8) : List UInt8 × Int := if ¬ b.length = 120 ∧ ¬ b.length = 1020 then ([], 11) else if b.length < szP b + 2 ∨ (b.drop (2 + szP b)).any (fun c => decide (¬ c.toNat = 0)) = true then ([], 11) else ((b.drop 2).take (szP b), 0)
def idxZ (i : Nat) : List UInt8 → Int
  | [] => -1
  | c :: l => if c.toNat = 0 then idxZ (i + 1) l else i
def numsOk : List Int → Bool
  | [] => true
  | n :: l => decide (0 ≤ n ∧ n ≤ 4611686018427387904) && numsOk l

def e_sized : Int → List AV := fun n => [.int .i64 n]
def k_sized : Int → Prop := fun n => True
def r_sized : Int → AV := fun n => .bool (decide (n = 120 ∨ n = 1020))
noncomputable def p_sized : List AV → Store → Option (AV × Store) := primS e_sized (gd k_sized r_sized)
theorem i_sized : Inj e_sized := by
  intro n1 n2 h
  simpa only [e_sized, enc_inj, rec_inj, AV.str.injEq, AV.int.injEq, AV.bool.injEq, AV.agg.injEq, AV.ptr.injEq, AV.fn.injEq, List.cons.injEq, and_true, true_and, Prod.mk.injEq] using h
theorem c_sized {E : Env} (h : E.prim 34 = some fun _ => p_sized) (n : Int) {S : Store} {K : AV → Store → Prop} {d : Dm K} : SpD E 34 [.int .i64 n] S K d = K (.bool (decide (n = 120 ∨ n = 1020))) S :=
  callS h i_sized (a := n) (by simp only [e_sized, rdSL_cons, rdSL_nil, rdS_int, rdS_bool, rdS_str, enc_rdS, rdS_fn0, rdS_csl0, rdS_rec, rdSL_rec, rdS_agg, rdS_tup, Option.bind_some, Option.map_some]) trivial
theorem c_sized' {E : Env} (h : E.prim 34 = some fun _ => p_sized) {S : Store} {x0 : AV} {n : Int} (h0 : rdS S x0 = some (.int .i64 n)) {K : AV → Store → Prop} {d : Dm K} : SpD E 34 [x0] S K d = K (.bool (decide (n = 120 ∨ n = 1020))) S :=
  callS h i_sized (a := n) (by simp only [e_sized, rdSL, h0, Option.bind_some, Option.map_some]) trivial
def e_pad : (List UInt8) × Int → List AV := fun | (b, n) => [enc b, .int .i64 n]
def k_pad : (List UInt8) × Int → Prop := fun | (b, n) => b.length ≤ 9223372036854775000
def r_pad : (List UInt8) × Int → AV := fun | (b, n) => .tup [enc (padP b n).1, .int .i64 (padP b n).2]
noncomputable def p_pad : List AV → Store → Option (AV × Store) := primG e_pad (gd k_pad r_pad)
theorem i_pad : Inj e_pad := by
  rintro ⟨b1, n1⟩ ⟨b2, n2⟩ h
  simpa only [e_pad, enc_inj, rec_inj, AV.str.injEq, AV.int.injEq, AV.bool.injEq, AV.agg.injEq, AV.ptr.injEq, AV.fn.injEq, List.cons.injEq, and_true, true_and, Prod.mk.injEq] using h
theorem c_pad {E : Env} (h : E.prim 8 = some fun _ => p_pad) (b : List UInt8) (n : Int) (hk : b.length ≤ 9223372036854775000) {S : Store} {K : AV → Store → Prop} {d : Dm K} : SpD E 8 [enc b, .int .i64 n] S K d = K (.tup [enc (padP b n).1, .int .i64 (padP b n).2]) S := by
  have := callG h i_pad (a := (b, n)) (S := S) (args := [enc b, .int .i64 n]) (K := K) (d := d) (by simp only [e_pad, rdSL_cons, rdSL_nil, rdS_int, rdS_bool, rdS_str, enc_rdS, rdS_fn0, rdS_csl0, rdS_rec, rdSL_rec, rdS_agg, rdS_tup, Option.bind_some, Option.map_some]) hk
  simpa only [r_pad, topL_cons, topL_nil, top_int, top_bool, top_str, top_csl, enc_top, top_agg, top_rec, top_fn, List.nil_append, killL_nil] using this
theorem c_pad' {E : Env} (h : E.prim 8 = some fun _ => p_pad) {S : Store} {x0 x1 : AV} {b : List UInt8} {n : Int} (h0 : rdS S x0 = some (enc b)) (h1 : rdS S x1 = some (.int .i64 n)) (hk : b.length ≤ 9223372036854775000) {K : AV → Store → Prop} {d : Dm K} : SpD E 8 [x0, x1] S K d = K (.tup [enc (padP b n).1, .int .i64 (padP b n).2]) (killL (topIdsL [x0, x1]) S) :=
  callG h i_pad (a := (b, n)) (by simp only [e_pad, rdSL, h0, h1, Option.bind_some, Option.map_some]) hk
def e_padR : (List UInt8) × Int → List AV := fun | (b, n) => [enc b, .int .i64 n]
def k_padR : (List UInt8) × Int → Prop := fun | (b, n) => b.length ≤ 9223372036854775000
def r_padR : (List UInt8) × Int → AV := fun | (b, n) => .tup [enc (padP b n).1, .int .i64 (padP b n).2]
noncomputable def p_padR : List AV → Store → Option (AV × Store) := primG e_padR (gd k_padR r_padR)
theorem i_padR : Inj e_padR := by
  rintro ⟨b1, n1⟩ ⟨b2, n2⟩ h
  simpa only [e_padR, enc_inj, rec_inj, AV.str.injEq, AV.int.injEq, AV.bool.injEq, AV.agg.injEq, AV.ptr.injEq, AV.fn.injEq, List.cons.injEq, and_true, true_and, Prod.mk.injEq] using h
theorem c_padR {E : Env} (h : E.prim 9 = some fun _ => p_padR) (b : List UInt8) (n : Int) (hk : b.length ≤ 9223372036854775000) {S : Store} {K : AV → Store → Prop} {d : Dm K} : SpD E 9 [enc b, .int .i64 n] S K d = K (.tup [enc (padP b n).1, .int .i64 (padP b n).2]) S := by
  have := callG h i_padR (a := (b, n)) (S := S) (args := [enc b, .int .i64 n]) (K := K) (d := d) (by simp only [e_padR, rdSL_cons, rdSL_nil, rdS_int, rdS_bool, rdS_str, enc_rdS, rdS_fn0, rdS_csl0, rdS_rec, rdSL_rec, rdS_agg, rdS_tup, Option.bind_some, Option.map_some]) hk
  simpa only [r_padR, topL_cons, topL_nil, top_int, top_bool, top_str, top_csl, enc_top, top_agg, top_rec, top_fn, List.nil_append, killL_nil] using this
theorem c_padR' {E : Env} (h : E.prim 9 = some fun _ => p_padR) {S : Store} {x0 x1 : AV} {b : List UInt8} {n : Int} (h0 : rdS S x0 = some (enc b)) (h1 : rdS S x1 = some (.int .i64 n)) (hk : b.length ≤ 9223372036854775000) {K : AV → Store → Prop} {d : Dm K} : SpD E 9 [x0, x1] S K d = K (.tup [enc (padP b n).1, .int .i64 (padP b n).2]) (killL (topIdsL [x0, x1]) S) :=
  callG h i_padR (a := (b, n)) (by simp only [e_padR, rdSL, h0, h1, Option.bind_some, Option.map_some]) hk
def e_notz : UInt8 → List AV := fun c => [.int .u8 c.toNat]
def k_notz : UInt8 → Prop := fun c => True
def r_notz : UInt8 → AV := fun c => .bool (decide (¬ c.toNat = 0))
noncomputable def p_notz : List AV → Store → Option (AV × Store) := primS e_notz (gd k_notz r_notz)
theorem i_notz : Inj e_notz := by
  intro c1 c2 h
  simpa only [e_notz, enc_inj, rec_inj, AV.str.injEq, AV.int.injEq, AV.bool.injEq, AV.agg.injEq, AV.ptr.injEq, AV.fn.injEq, List.cons.injEq, and_true, true_and, Prod.mk.injEq, Int.natCast_inj, UInt8.toNat_inj] using h
theorem c_notz {E : Env} (h : E.prim 38 = some fun _ => p_notz) (c : UInt8) {S : Store} {K : AV → Store → Prop} {d : Dm K} : SpD E 38 [.int .u8 c.toNat] S K d = K (.bool (decide (¬ c.toNat = 0))) S :=
  callS h i_notz (a := c) (by simp only [e_notz, rdSL_cons, rdSL_nil, rdS_int, rdS_bool, rdS_str, enc_rdS, rdS_fn0, rdS_csl0, rdS_rec, rdSL_rec, rdS_agg, rdS_tup, Option.bind_some, Option.map_some]) trivial
theorem c_notz' {E : Env} (h : E.prim 38 = some fun _ => p_notz) {S : Store} {x0 : AV} {c : UInt8} (h0 : rdS S x0 = some (.int .u8 c.toNat)) {K : AV → Store → Prop} {d : Dm K} : SpD E 38 [x0] S K d = K (.bool (decide (¬ c.toNat = 0))) S :=
  callS h i_notz (a := c) (by simp only [e_notz, rdSL, h0, Option.bind_some, Option.map_some]) trivial
def e_idxz : List UInt8 → List AV := fun b => [enc b, .fn 38 []]
def k_idxz : List UInt8 → Prop := fun b => b.length ≤ 9223372036854775000
def r_idxz : List UInt8 → AV := fun b => .int .i64 (idxZ 0 b)
noncomputable def p_idxz : List AV → Store → Option (AV × Store) := primS e_idxz (gd k_idxz r_idxz)
theorem i_idxz : Inj e_idxz := by
  intro b1 b2 h
  simpa only [e_idxz, enc_inj, rec_inj, AV.str.injEq, AV.int.injEq, AV.bool.injEq, AV.agg.injEq, AV.ptr.injEq, AV.fn.injEq, List.cons.injEq, and_true, true_and, Prod.mk.injEq] using h
theorem c_idxz {E : Env} (h : E.prim 62 = some fun _ => p_idxz) (b : List UInt8) (hk : b.length ≤ 9223372036854775000) {S : Store} {K : AV → Store → Prop} {d : Dm K} : SpD E 62 [enc b, .fn 38 []] S K d = K (.int .i64 (idxZ 0 b)) S :=
  callS h i_idxz (a := b) (by simp only [e_idxz, rdSL_cons, rdSL_nil, rdS_int, rdS_bool, rdS_str, enc_rdS, rdS_fn0, rdS_csl0, rdS_rec, rdSL_rec, rdS_agg, rdS_tup, Option.bind_some, Option.map_some]) hk
theorem c_idxz' {E : Env} (h : E.prim 62 = some fun _ => p_idxz) {S : Store} {x0 x1 : AV} {b : List UInt8} (h0 : rdS S x0 = some (enc b)) (h1 : rdS S x1 = some (.fn 38 [])) (hk : b.length ≤ 9223372036854775000) {K : AV → Store → Prop} {d : Dm K} : SpD E 62 [x0, x1] S K d = K (.int .i64 (idxZ 0 b)) S :=
  callS h i_idxz (a := b) (by simp only [e_idxz, rdSL, h0, h1, Option.bind_some, Option.map_some]) hk
def e_anyz : List UInt8 → List AV := fun b => [enc b, .fn 38 []]
def k_anyz : List UInt8 → Prop := fun b => b.length ≤ 9223372036854775000
def r_anyz : List UInt8 → AV := fun b => .bool (b.any fun c => decide (¬ c.toNat = 0))
noncomputable def p_anyz : List AV → Store → Option (AV × Store) := primS e_anyz (gd k_anyz r_anyz)
theorem i_anyz : Inj e_anyz := by
  intro b1 b2 h
  simpa only [e_anyz, enc_inj, rec_inj, AV.str.injEq, AV.int.injEq, AV.bool.injEq, AV.agg.injEq, AV.ptr.injEq, AV.fn.injEq, List.cons.injEq, and_true, true_and, Prod.mk.injEq] using h
theorem c_anyz {E : Env} (h : E.prim 37 = some fun _ => p_anyz) (b : List UInt8) (hk : b.length ≤ 9223372036854775000) {S : Store} {K : AV → Store → Prop} {d : Dm K} : SpD E 37 [enc b, .fn 38 []] S K d = K (.bool (b.any fun c => decide (¬ c.toNat = 0))) S :=
  callS h i_anyz (a := b) (by simp only [e_anyz, rdSL_cons, rdSL_nil, rdS_int, rdS_bool, rdS_str, enc_rdS, rdS_fn0, rdS_csl0, rdS_rec, rdSL_rec, rdS_agg, rdS_tup, Option.bind_some, Option.map_some]) hk
theorem c_anyz' {E : Env} (h : E.prim 37 = some fun _ => p_anyz) {S : Store} {x0 x1 : AV} {b : List UInt8} (h0 : rdS S x0 = some (enc b)) (h1 : rdS S x1 = some (.fn 38 [])) (hk : b.length ≤ 9223372036854775000) {K : AV → Store → Prop} {d : Dm K} : SpD E 37 [x0, x1] S K d = K (.bool (b.any fun c => decide (¬ c.toNat = 0))) S :=
  callS h i_anyz (a := b) (by simp only [e_anyz, rdSL, h0, h1, Option.bind_some, Option.map_some]) hk
def e_unpad : List UInt8 → List AV := fun b => [enc b]
def k_unpad : List UInt8 → Prop := fun b => b.length ≤ 9223372036854775000
def r_unpad : List UInt8 → AV := fun b => .tup [enc (unpadP b).1, .int .i64 (unpadP b).2]
noncomputable def p_unpad : List AV → Store → Option (AV × Store) := primG e_unpad (gd k_unpad r_unpad)
theorem i_unpad : Inj e_unpad := by
  intro b1 b2 h
  simpa only [e_unpad, enc_inj, rec_inj, AV.str.injEq, AV.int.injEq, AV.bool.injEq, AV.agg.injEq, AV.ptr.injEq, AV.fn.injEq, List.cons.injEq, and_true, true_and, Prod.mk.injEq] using h
theorem c_unpad {E : Env} (h : E.prim 11 = some fun _ => p_unpad) (b : List UInt8) (hk : b.length ≤ 9223372036854775000) {S : Store} {K : AV → Store → Prop} {d : Dm K} : SpD E 11 [enc b] S K d = K (.tup [enc (unpadP b).1, .int .i64 (unpadP b).2]) S := by
  have := callG h i_unpad (a := b) (S := S) (args := [enc b]) (K := K) (d := d) (by simp only [e_unpad, rdSL_cons, rdSL_nil, rdS_int, rdS_bool, rdS_str, enc_rdS, rdS_fn0, rdS_csl0, rdS_rec, rdSL_rec, rdS_agg, rdS_tup, Option.bind_some, Option.map_some]) hk
  simpa only [r_unpad, topL_cons, topL_nil, top_int, top_bool, top_str, top_csl, enc_top, top_agg, top_rec, top_fn, List.nil_append, killL_nil] using this
theorem c_unpad' {E : Env} (h : E.prim 11 = some fun _ => p_unpad) {S : Store} {x0 : AV} {b : List UInt8} (h0 : rdS S x0 = some (enc b)) (hk : b.length ≤ 9223372036854775000) {K : AV → Store → Prop} {d : Dm K} : SpD E 11 [x0] S K d = K (.tup [enc (unpadP b).1, .int .i64 (unpadP b).2]) (killL (topIdsL [x0]) S) :=
  callG h i_unpad (a := b) (by simp only [e_unpad, rdSL, h0, Option.bind_some, Option.map_some]) hk
def e_unpadR : List UInt8 → List AV := fun b => [enc b]
def k_unpadR : List UInt8 → Prop := fun b => b.length ≤ 9223372036854775000
def r_unpadR : List UInt8 → AV := fun b => .tup [enc (unpadP b).1, .int .i64 (unpadP b).2]
noncomputable def p_unpadR : List AV → Store → Option (AV × Store) := primG e_unpadR (gd k_unpadR r_unpadR)
theorem i_unpadR : Inj e_unpadR := by
  intro b1 b2 h
  simpa only [e_unpadR, enc_inj, rec_inj, AV.str.injEq, AV.int.injEq, AV.bool.injEq, AV.agg.injEq, AV.ptr.injEq, AV.fn.injEq, List.cons.injEq, and_true, true_and, Prod.mk.injEq] using h
theorem c_unpadR {E : Env} (h : E.prim 12 = some fun _ => p_unpadR) (b : List UInt8) (hk : b.length ≤ 9223372036854775000) {S : Store} {K : AV → Store → Prop} {d : Dm K} : SpD E 12 [enc b] S K d = K (.tup [enc (unpadP b).1, .int .i64 (unpadP b).2]) S := by
  have := callG h i_unpadR (a := b) (S := S) (args := [enc b]) (K := K) (d := d) (by simp only [e_unpadR, rdSL_cons, rdSL_nil, rdS_int, rdS_bool, rdS_str, enc_rdS, rdS_fn0, rdS_csl0, rdS_rec, rdSL_rec, rdS_agg, rdS_tup, Option.bind_some, Option.map_some]) hk
  simpa only [r_unpadR, topL_cons, topL_nil, top_int, top_bool, top_str, top_csl, enc_top, top_agg, top_rec, top_fn, List.nil_append, killL_nil] using this
theorem c_unpadR' {E : Env} (h : E.prim 12 = some fun _ => p_unpadR) {S : Store} {x0 : AV} {b : List UInt8} (h0 : rdS S x0 = some (enc b)) (hk : b.length ≤ 9223372036854775000) {K : AV → Store → Prop} {d : Dm K} : SpD E 12 [x0] S K d = K (.tup [enc (unpadP b).1, .int .i64 (unpadP b).2]) (killL (topIdsL [x0]) S) :=
  callG h i_unpadR (a := b) (by simp only [e_unpadR, rdSL, h0, Option.bind_some, Option.map_some]) hk
def e_recordBlobs : (List UInt8) × Int → List AV := fun | (b, n) => [enc b, .int .i64 n]
def k_recordBlobs : (List UInt8) × Int → Prop := fun | (b, n) => b.length ≤ 9223372036854775807
def r_recordBlobs : (List UInt8) × Int → AV := fun | (b, n) => .bool true
noncomputable def p_recordBlobs : List AV → Store → Option (AV × Store) := primS e_recordBlobs (gd k_recordBlobs r_recordBlobs)
theorem i_recordBlobs : Inj e_recordBlobs := by
  rintro ⟨b1, n1⟩ ⟨b2, n2⟩ h
  simpa only [e_recordBlobs, enc_inj, rec_inj, AV.str.injEq, AV.int.injEq, AV.bool.injEq, AV.agg.injEq, AV.ptr.injEq, AV.fn.injEq, List.cons.injEq, and_true, true_and, Prod.mk.injEq] using h
theorem c_recordBlobs {E : Env} (h : E.prim 3 = some fun _ => p_recordBlobs) (b : List UInt8) (n : Int) (hk : b.length ≤ 9223372036854775807) {S : Store} {K : AV → Store → Prop} {d : Dm K} : SpD E 3 [enc b, .int .i64 n] S K d = K (.bool true) S :=
  callS h i_recordBlobs (a := (b, n)) (by simp only [e_recordBlobs, rdSL_cons, rdSL_nil, rdS_int, rdS_bool, rdS_str, enc_rdS, rdS_fn0, rdS_csl0, rdS_rec, rdSL_rec, rdS_agg, rdS_tup, Option.bind_some, Option.map_some]) hk
theorem c_recordBlobs' {E : Env} (h : E.prim 3 = some fun _ => p_recordBlobs) {S : Store} {x0 x1 : AV} {b : List UInt8} {n : Int} (h0 : rdS S x0 = some (enc b)) (h1 : rdS S x1 = some (.int .i64 n)) (hk : b.length ≤ 9223372036854775807) {K : AV → Store → Prop} {d : Dm K} : SpD E 3 [x0, x1] S K d = K (.bool true) S :=
  callS h i_recordBlobs (a := (b, n)) (by simp only [e_recordBlobs, rdSL, h0, h1, Option.bind_some, Option.map_some]) hk
def e_awake35 : Unit → List AV := fun _ => []
def k_awake35 : Unit → Prop := fun _ => True
def r_awake35 : Unit → AV := fun _ => .bool true
noncomputable def p_awake35 : List AV → Store → Option (AV × Store) := primS e_awake35 (gd k_awake35 r_awake35)
theorem i_awake35 : Inj e_awake35 := fun _ _ _ => rfl
theorem c_awake35 {E : Env} (h : E.prim 7 = some fun _ => p_awake35)  {S : Store} {K : AV → Store → Prop} {d : Dm K} : SpD E 7 [] S K d = K (.bool true) S :=
  callS h i_awake35 (a := ()) (by simp only [e_awake35, rdSL_cons, rdSL_nil, rdS_int, rdS_bool, rdS_str, enc_rdS, rdS_fn0, rdS_csl0, rdS_rec, rdSL_rec, rdS_agg, rdS_tup, Option.bind_some, Option.map_some]) trivial

/-! ### rows of one's own -/
def o_turned (b : List UInt8) (S : Store) : Option (AV × Store) := if 0 < b.length ∧ b.length ≤ 1000000 then some (.sl S.length 0 b.length 1, S ++ [.cells (cl b.reverse)]) else none
def e_putO (p : Int × Int) : List AV := [.int .i64 p.1, .int .i64 p.2]
def o_put (p : Int × Int) (S : Store) : Option (AV × Store) := if 0 < (putP p.1 p.2).1.length ∧ (putP p.1 p.2).2 = 0 then some (.tup [.sl S.length 0 (putP p.1 p.2).1.length 1, .int .i64 0], S ++ [.cells (cl (putP p.1 p.2).1)]) else none
theorem i_putO : Inj e_putO := fun a b h => by
  simp only [e_putO, List.cons.injEq, AV.int.injEq, true_and, and_true] at h
  exact Prod.ext h.1 h.2
theorem ok_turnedO {E : Env} (hp : E.prim 61 = none) (hf : E.F 61 = some F61) (h1 : E.prim 39 = some fun _ => primO (fun l : List UInt8 => [enc l]) (ownRow 1000000000000))
    (hp2 : E.prim 76 = none) (hf2 : E.F 76 = some F76) : OkO E 61 (fun l : List UInt8 => [enc l]) o_turned := by
  intro l v S S' h
  unfold o_turned at h
  split at h
  · rename_i hk; cases h
    have hr := run_rev hp2 hf2 l (by omega) hk.2 S.length (S ++ [.cells (cl l)]) (get_new0 _ _)
    rw [set_new0] at hr
    have : Sp E 61 [enc l] S fun v1 S1 => Conv S S1 v1 (S ++ [.cells (cl l.reverse)]) (.sl S.length 0 l.length 1) := by
      refine Sp.intro hp hf rfl ?_
      simp -dsimp only [go_sem, F61, call_clone h1 l (by omega) (by omega), hr.spD]
      exact Conv.own (List.prefix_append _ _) (Nat.le_refl _) (by rw [get_new0]; rfl) (cl_pure _)
    obtain ⟨v1, S1, hc, hi⟩ := this
    exact ⟨v1, S1, hi, hc⟩
  · cases h
theorem ok_putO {E : Env} (hp : E.prim 35 = none) (hf : E.F 35 = some F35) (h1 : E.prim 60 = some fun _ => p_low) (h2 : E.prim 61 = some fun _ => primO (fun l : List UInt8 => [enc l]) o_turned) : OkO E 35 e_putO o_put := by
  intro ⟨n, k⟩ v S S' h
  unfold o_put at h
  split at h
  · rename_i hk; cases h
    simp only at hk
    have hl : (lowP n k).1.length ≤ 1000000 := by
      have := putP_len n k
      simp only [putP, List.length_reverse] at this; omega
    have hl2 : (lowP n k).1.length = (putP n k).1.length := by simp [putP]
    have ct : ∀ (K : AV → Store → Prop) (q : Dm K), SpD E 61 [enc (lowP n k).1] S K q = K (.sl S.length 0 (putP n k).1.length 1) (S ++ [.cells (cl (putP n k).1)]) := fun K q =>
      callO h2 inj_one (a := (lowP n k).1) (by simp [rd0L, enc_rd0]) (by rw [← hl2]; exact if_pos ⟨by omega, hl⟩)
    have : Sp E 35 [.int .i64 n, .int .i64 k] S fun v1 S1 => Conv S S1 v1 (S ++ [.cells (cl (putP n k).1)]) (.tup [.sl S.length 0 (putP n k).1.length 1, .int .i64 0]) := by
      refine Sp.intro hp hf rfl ?_
      have e : (lowP n k).2 = 0 := hk.2
      simp -dsimp only [go_sem, F35, c_low h1 n k, ct, e]
      refine Conv.ownV (List.prefix_append _ _) (Nat.le_refl _) (by rw [get_new0]; rfl) (cl_pure _) (.tup rfl fun j v u a b => ?_)
      match j, a, b with
      | 0, a, b => cases a; cases b; exact .sl (rhoO_id _ (Nat.le_refl _))
      | 1, a, b => cases a; cases b; exact .int _ _
      | j + 2, a, b => simp at a
    obtain ⟨v1, S1, hc, hi⟩ := this
    exact ⟨v1, S1, hi, hc⟩
  · cases h

/-! ### zeros behind a row -/
theorem rep_cl (m : Nat) : (List.replicate m [AV.int .u8 0]).flatten = cl (List.replicate m (0 : UInt8)) := by
  induction m with
  | zero => rfl
  | succ m ih => rw [List.replicate_succ, List.flatten_cons, ih, List.replicate_succ, cl_cons]; rfl
theorem appz_eq (S : Store) (x : AV) (m : Nat) (hm : m ≤ 140737488355328) : appzA S 1 1 [.int .u8 0] x (.int .i64 m) = appA S 1 1 x (enc (List.replicate m (0 : UInt8))) := by
  have e := el_enc (S := S) (List.replicate m (0 : UInt8)) (sz := 1) rfl
  unfold appzA appA
  simp only [aop, ev]
  rw [if_pos ⟨by omega, rfl, by omega⟩, e]
  simp only [Option.bind_some, Int.toNat_natCast, rep_cl, List.length_replicate]
  rfl
theorem OwnL.appz {S0 T : Store} {x : AV} {l : List UInt8} {i : Int} {m : Nat} (h : OwnL S0 T x l) (hi : i = m) (hb : l.length + m ≤ 140737488355328) {K : AV → Store → Prop} {d : Dm K}
    (k : ∀ x' T', OwnL S0 T' x' (l ++ List.replicate m 0) → Keep S0 T T' x → (∀ i, i ∈ topIds x' → i ∈ topIds x ∨ T.length ≤ i) → K x' T') : thn (appzA T 1 1 [.int .u8 0] x (.int .i64 i)) K d := by
  subst hi
  rw [appz_eq _ _ _ (by omega)]
  exact OwnL.app h rfl (by rw [el_enc _ rfl]) (by rw [List.length_replicate]; omega) k

/-! ### walks -/
theorem put2 {n : Nat} (h : n ≤ 65535) : putP n 2 = ([UInt8.ofNat (n / 256), UInt8.ofNat (n % 256)], 0) := by
  have : lowP n 2 = ([UInt8.ofNat (n % 256), UInt8.ofNat (n / 256)], 0) := by
    unfold lowP
    rw [if_pos ⟨by omega, by omega, by omega, by omega, by simp; omega⟩]
    simp only [show (2 : Int).toNat = 2 from rfl, leN, Int.toNat_natCast]
    rw [show n / 256 % 256 = n / 256 by omega]
  rw [putP, this]; rfl
theorem ok_sized {E : Env} (hp : E.prim 34 = none) (hf : E.F 34 = some F34) : OkS E 34 e_sized (gd k_sized r_sized) := by
  refine OkS.code hp hf (fun _ => rfl) fun n _ => ?_
  cases y : decide (n = 120)
  · have e : decide (n = 120 ∨ n = 1020) = decide (n = 1020) := by have := of_decide_eq_false y; simp [this]
    simp -dsimp only [go_sem, F34, e_sized, r_sized, y, e]
  · have e : decide (n = 120 ∨ n = 1020) = true := by have := of_decide_eq_true y; simp [this]
    simp -dsimp only [go_sem, F34, e_sized, r_sized, y, e]
theorem ok_pad {E : Env} (hp : E.prim 8 = none) (hf : E.F 8 = some F8) (h1 : E.prim 34 = some fun _ => p_sized) (h2 : E.prim 35 = some fun _ => primO e_putO o_put) : OkG E 8 e_pad (gd k_pad r_pad) := by
  refine OkG.code hp hf (fun _ => rfl) fun ⟨b, n⟩ S hk => ?_
  have hk : b.length ≤ 9223372036854775000 := hk
  by_cases y : ¬ n = 120 ∧ ¬ n = 1020
  · have e : padP b n = ([], 2) := if_pos y
    have ys : decide (n = 120 ∨ n = 1020) = false := decide_eq_false (by omega)
    simp -dsimp only [go_sem, F8, e_pad, r_pad, c_sized h1 n, ys, e]
    exact conv_pair List.prefix_rfl (fun i h => by simp [topIds] at h) rfl
  have ys : decide (n = 120 ∨ n = 1020) = true := decide_eq_true (by omega)
  have hn : n = 120 ∨ n = 1020 := by omega
  have w1 : IntKind.i64.wrap (n - 2) = n - 2 := wrap64 (by omega) (by omega)
  cases yl : decide (n - 2 < (b.length : Int))
  rotate_left
  · have e : padP b n = ([], 3) := by rw [padP, if_neg y, if_pos (of_decide_eq_true yl)]
    simp -dsimp only [go_sem, F8, e_pad, r_pad, c_sized h1 n, ys, w1, yl, e]
    exact conv_pair List.prefix_rfl (fun i h => by simp [topIds] at h) rfl
  have yl' := of_decide_eq_false yl
  have hb : b.length ≤ 1018 := by omega
  have e : padP b n = (padB b n.toNat, 0) := by rw [padP, if_neg y, if_neg yl']
  have hput := put2 (n := b.length) (by omega)
  have cp : ∀ (T : Store) (K : AV → Store → Prop) (q : Dm K), SpD E 35 [.int .i64 (b.length : Int), .int .i64 2] T K q = K (.tup [.sl T.length 0 2 1, .int .i64 0]) (T ++ [.cells (cl [UInt8.ofNat (b.length / 256), UInt8.ofNat (b.length % 256)])]) := fun T K q => by
    have := callO (E := E) (args := [.int .i64 (b.length : Int), .int .i64 2]) (S := T) (a := ((b.length : Int), (2 : Int))) (v := .tup [.sl T.length 0 2 1, .int .i64 0]) (S' := T ++ [.cells (cl [UInt8.ofNat (b.length / 256), UInt8.ofNat (b.length % 256)])]) (K := K) (d := q) h2 i_putO rfl (by
      show (if 0 < (putP (b.length : Int) 2).1.length ∧ (putP (b.length : Int) 2).2 = 0 then some (AV.tup [.sl T.length 0 (putP (b.length : Int) 2).1.length 1, .int .i64 0], T ++ [AObj.cells (cl (putP (b.length : Int) 2).1)]) else none) = _
      rw [hput]; rfl)
    exact this
  have w2 : IntKind.i64.wrap (n - 2 - (b.length : Int)) = n - 2 - (b.length : Int) := wrap64 (by omega) (by omega)
  simp -dsimp only [go_sem, F8, e_pad, r_pad, c_sized h1 n, ys, w1, yl, cp]
  refine OwnL.app (OwnL.new List.prefix_rfl rfl rfl) rfl (el_enc b rfl) (by simp; omega) fun x T hO _ _ => ?_
  simp -dsimp only [go_sem, w1, w2]
  refine OwnL.appz hO (m := (n - 2 - (b.length : Int)).toNat) (by omega) (by simp; omega) fun x' T' hO' _ _ => ?_
  simp -dsimp only [go_sem, F8, r_pad, e]
  refine conv_pair hO'.1 hO'.ids ?_
  rw [hO'.rd]
  congr 2
  simp only [padB, List.cons_append, List.nil_append]
  rw [show (n - 2 - (b.length : Int)).toNat = n.toNat - 2 - b.length by omega]
theorem ok_padR {E : Env} (hp : E.prim 9 = none) (hf : E.F 9 = some F9) : OkG E 9 e_padR (gd k_padR r_padR) := by
  refine OkG.code hp hf (fun _ => rfl) fun ⟨b, n⟩ S hk => ?_
  have hk : b.length ≤ 9223372036854775000 := hk
  by_cases y : ¬ n = 120 ∧ ¬ n = 1020
  · have e : padP b n = ([], 2) := if_pos y
    have y1 : decide (n = 120) = false := decide_eq_false y.1
    have y2 : decide (n = 1020) = false := decide_eq_false y.2
    simp -dsimp only [go_sem, F9, e_padR, r_padR, y1, y2, e]
    exact conv_pair List.prefix_rfl (fun i h => by simp [topIds] at h) rfl
  have hn : n = 120 ∨ n = 1020 := by omega
  have w1 : IntKind.i64.wrap (n - 2) = n - 2 := wrap64 (by omega) (by omega)
  have hy : decide (n = 120) = true ∨ decide (n = 120) = false ∧ decide (n = 1020) = true := by simp only [decide_eq_true_eq, decide_eq_false_iff_not]; omega
  cases yl : decide (n - 2 < (b.length : Int))
  rotate_left
  · have e : padP b n = ([], 3) := by rw [padP, if_neg y, if_pos (of_decide_eq_true yl)]
    rcases hy with y1 | ⟨y1, y2⟩
    · simp -dsimp only [go_sem, F9, e_padR, r_padR, y1, w1, yl, e]
      exact conv_pair List.prefix_rfl (fun i h => by simp [topIds] at h) rfl
    · simp -dsimp only [go_sem, F9, e_padR, r_padR, y1, y2, w1, yl, e]
      exact conv_pair List.prefix_rfl (fun i h => by simp [topIds] at h) rfl
  have yl' := of_decide_eq_false yl
  have hb : b.length ≤ 1018 := by omega
  have e : padP b n = (padB b n.toNat, 0) := by rw [padP, if_neg y, if_neg yl']
  have hq : abin .quo (.int .i64 (b.length : Int)) (.int .i64 256) = some (.int .i64 ((b.length / 256 : Nat) : Int)) := by
    rw [b_quo (by omega), show ((b.length : Int)).tdiv 256 = ((b.length / 256 : Nat) : Int) from rfl, wrap64 (by omega) (by omega)]
  have hr : abin .rem (.int .i64 (b.length : Int)) (.int .i64 256) = some (.int .i64 ((b.length % 256 : Nat) : Int)) := by
    rw [b_rem (by omega)]; rfl
  rcases hy with y1 | ⟨y1, y2⟩
  all_goals
    first
      | simp -dsimp only [go_sem, F9, e_padR, r_padR, y1, y2, w1, yl, hq, hr, u8_wrap, lit_two _ _ _ rfl rfl]
      | simp -dsimp only [go_sem, F9, e_padR, r_padR, y1, w1, yl, hq, hr, u8_wrap, lit_two _ _ _ rfl rfl]
    refine OwnL.app (OwnL.new List.prefix_rfl rfl rfl) rfl (el_enc b rfl) (by simp; omega) fun x T hO _ _ => ?_
    simp -dsimp only [go_sem]
    refine Ex.while (fun k g T => ∃ j : Nat, k = n.toNat - 2 - b.length - j ∧ j ≤ n.toNat - 2 - b.length ∧ g 1 = .int .i64 n ∧ OwnL S T (g 6) (([UInt8.ofNat (b.length / 256), UInt8.ofNat (b.length % 256)] ++ b) ++ List.replicate j 0)) (n.toNat - 2 - b.length) ⟨0, rfl, by omega, rfl, by rw [List.replicate_zero, List.append_nil]; exact hO⟩ ?_
    rintro k g T ⟨j, rfl, hj, g1, hO⟩
    have hln := hO.len
    have hll : ((([UInt8.ofNat (b.length / 256), UInt8.ofNat (b.length % 256)] ++ b) ++ List.replicate j (0 : UInt8)).length : Int) = (b.length + 2 + j : Nat) := by simp; omega
    rw [hll] at hln
    cases yj : decide (((b.length + 2 + j : Nat) : Int) < n)
    · have yj' := of_decide_eq_false yj
      simp -dsimp only [go_sem, g1, hln, yj, F9, r_padR, e]
      refine conv_pair hO.1 hO.ids ?_
      rw [hO.rd]
      congr 2
      simp only [padB, List.cons_append, List.nil_append]
      rw [show n.toNat - 2 - b.length = j by omega]
    · have yj' := of_decide_eq_true yj
      simp -dsimp only [go_sem, g1, hln, yj]
      refine OwnL.app hO rfl (el_enc [(0 : UInt8)] rfl) (by simp; omega) fun x' T' hO' _ _ => ?_
      simp -dsimp only [go_sem, g1]
      refine ⟨_, ?_, j + 1, rfl, by omega, ?_⟩
      · omega
      · rw [List.replicate_succ', ← List.append_assoc]; exact hO'

theorem ok_notz {E : Env} (hp : E.prim 38 = none) (hf : E.F 38 = some F38) : OkS E 38 e_notz (gd k_notz r_notz) := by
  refine OkS.code hp hf (fun _ => rfl) fun c _ => ?_
  cases y : decide ((c.toNat : Int) = 0)
  · have e : decide (¬ c.toNat = 0) = true := decide_eq_true (by have := of_decide_eq_false y; omega)
    simp -dsimp only [go_sem, F38, e_notz, r_notz, y, e]
  · have e : decide (¬ c.toNat = 0) = false := decide_eq_false (by have := of_decide_eq_true y; omega)
    simp -dsimp only [go_sem, F38, e_notz, r_notz, y, e]
theorem idxZ_any : ∀ (i : Nat) (l : List UInt8), decide (0 ≤ idxZ i l) = l.any fun c => decide (¬ c.toNat = 0)
  | _, [] => rfl
  | i, c :: l => by
    rw [idxZ, List.any_cons]
    by_cases h : c.toNat = 0
    · rw [if_pos h, idxZ_any (i + 1) l, decide_eq_false (by omega), Bool.false_or]
    · rw [if_neg h, decide_eq_true (p := ¬ c.toNat = 0) h, Bool.true_or]; exact decide_eq_true (by omega)
theorem ok_idxz {E : Env} (hp : E.prim 62 = none) (hf : E.F 62 = some F62) (h1 : E.prim 38 = some fun _ => p_notz) : OkS E 62 e_idxz (gd k_idxz r_idxz) := by
  refine OkS.code hp hf (fun _ => rfl) fun l hk => ?_
  have hk : l.length ≤ 9223372036854775000 := hk
  simp -dsimp only [go_sem, F62, e_idxz]
  refine Ex.range (n := l.length) (fun i g T => g 0 = enc l ∧ g 1 = .fn 38 [] ∧ idxZ 0 l = idxZ i (l.drop i)) (by decide) (by omega) rfl rfl ⟨rfl, rfl, by simp⟩ ?_ ?_
  · rintro i g T hi gi gn ⟨g0, g1, hI⟩
    rw [List.drop_eq_getElem_cons hi] at hI
    cases y : decide (¬ l[i].toNat = 0)
    · have hI' : idxZ 0 l = idxZ (i + 1) (l.drop (i + 1)) := by rw [hI, idxZ, if_pos (by have := of_decide_eq_false y; omega)]
      simp -dsimp only [go_sem, gi, gn, g0, g1, ia_enc .i64 hi, c_notz h1 l[i], y, hI']
    · have hI' : idxZ 0 l = i := by rw [hI, idxZ, if_neg (of_decide_eq_true y)]
      simp -dsimp only [go_sem, gi, gn, g0, g1, ia_enc .i64 hi, c_notz h1 l[i], y, F62, r_idxz, hI']
  · rintro g T gi ⟨g0, g1, hI⟩
    have hI' : idxZ 0 l = -1 := by rw [hI, List.drop_length]; rfl
    simp -dsimp only [go_sem, F62, r_idxz, hI']
theorem ok_anyz {E : Env} (hp : E.prim 37 = none) (hf : E.F 37 = some F37) (h1 : E.prim 62 = some fun _ => p_idxz) : OkS E 37 e_anyz (gd k_anyz r_anyz) := by
  refine OkS.code hp hf (fun _ => rfl) fun l hk => ?_
  simp -dsimp only [go_sem, F37, e_anyz, c_idxz h1 l hk, r_anyz, idxZ_any]
theorem szP_lt (b : List UInt8) : szP b < 65536 := by
  have := ofBE_lt (b.take 2)
  have h2 : (b.take 2).length ≤ 2 := by rw [List.length_take]; omega
  exact Nat.lt_of_lt_of_le this (Nat.pow_le_pow_right (n := 256) (by decide) h2)
theorem ok_unpad {E : Env} (hp : E.prim 11 = none) (hf : E.F 11 = some F11) (h1 : E.prim 34 = some fun _ => p_sized) (h2 : E.prim 36 = some fun _ => p_get01) (h3 : E.prim 37 = some fun _ => p_anyz)
    (h4 : E.prim 39 = some fun _ => primO (fun l : List UInt8 => [enc l]) (ownRow 1000000000000)) : OkG E 11 e_unpad (gd k_unpad r_unpad) := by
  refine OkG.code hp hf (fun _ => rfl) fun b S hk => ?_
  have hk : b.length ≤ 9223372036854775000 := hk
  by_cases y : ¬ b.length = 120 ∧ ¬ b.length = 1020
  · have e : unpadP b = ([], 11) := if_pos y
    have ys : decide ((b.length : Int) = 120 ∨ (b.length : Int) = 1020) = false := decide_eq_false (by omega)
    simp -dsimp only [go_sem, F11, e_unpad, r_unpad, c_sized h1 b.length, ys, e]
    exact conv_pair List.prefix_rfl (fun i h => by simp [topIds] at h) rfl
  have ys : decide ((b.length : Int) = 120 ∨ (b.length : Int) = 1020) = true := decide_eq_true (by omega)
  have hb : 120 ≤ b.length ∧ b.length ≤ 1020 := by omega
  have hs := szP_lt b
  have s1 : sliceA 1 (enc b) none (some (.int .i64 2)) none = some (enc (b.take 2)) := by
    have := sl_enc (sz := 1) (l := b) (i := 0) (j := 2) (lo := none) (hi := some (.int .i64 2)) rfl rfl rfl (by omega) (by omega)
    rw [this]; rfl
  have g1 : getP (b.take 2) = (((szP b : Nat) : Int), 0) := by
    have hl : (b.take 2).length = 2 := by rw [List.length_take]; omega
    unfold getP
    rw [if_neg (by omega), if_neg (by omega), if_neg (by unfold szP at hs; omega)]; rfl
  have w1 : IntKind.i64.wrap ((b.length : Int) - 2) = (b.length : Int) - 2 := wrap64 (by omega) (by omega)
  have w2 : IntKind.i64.wrap (2 + ((szP b : Nat) : Int)) = ((2 + szP b : Nat) : Int) := by rw [wrap64 (by omega) (by omega)]; omega
  cases y1 : decide ((b.length : Int) - 2 < ((szP b : Nat) : Int))
  rotate_left
  · have e : unpadP b = ([], 11) := by rw [unpadP, if_neg y, if_pos (.inl (by have := of_decide_eq_true y1; omega))]
    simp -dsimp only [go_sem, F11, e_unpad, r_unpad, c_sized h1 b.length, ys, s1, c_get01 h2 (b.take 2), g1, w1, y1, e]
    exact conv_pair List.prefix_rfl (fun i h => by simp [topIds] at h) rfl
  have y1' := of_decide_eq_false y1
  have s2 : sliceA 1 (enc b) (some (.int .i64 ((2 + szP b : Nat) : Int))) none none = some (enc (b.drop (2 + szP b))) := by
    have := sl_enc (sz := 1) (l := b) (i := 2 + szP b) (j := b.length) (lo := some (.int .i64 ((2 + szP b : Nat) : Int))) (hi := none) rfl rfl rfl (by omega) (by omega)
    rw [this, List.take_of_length_le (by rw [List.length_drop]; omega)]
  have s3 : sliceA 1 (enc b) (some (.int .i64 2)) (some (.int .i64 ((2 + szP b : Nat) : Int))) none = some (enc ((b.drop 2).take (szP b))) := by
    have := sl_enc (sz := 1) (l := b) (i := 2) (j := 2 + szP b) (lo := some (.int .i64 2)) (hi := some (.int .i64 ((2 + szP b : Nat) : Int))) rfl rfl rfl (by omega) (by omega)
    rw [this, Nat.add_sub_cancel_left]
  have ca := fun (T : Store) (K : AV → Store → Prop) (q : Dm K) => c_anyz h3 (b.drop (2 + szP b)) (by rw [List.length_drop]; omega) (S := T) (K := K) (d := q)
  cases y2 : (b.drop (2 + szP b)).any fun c => decide (¬ c.toNat = 0)
  rotate_left
  · have e : unpadP b = ([], 11) := by rw [unpadP, if_neg y, if_pos (.inr y2)]
    simp -dsimp only [go_sem, F11, e_unpad, r_unpad, c_sized h1 b.length, ys, s1, c_get01 h2 (b.take 2), g1, w1, y1, w2, s2, ca, y2, e]
    exact conv_pair List.prefix_rfl (fun i h => by simp [topIds] at h) rfl
  have e : unpadP b = ((b.drop 2).take (szP b), 0) := by rw [unpadP, if_neg y, if_neg (fun h => h.elim (fun h => by omega) (fun h => by rw [y2] at h; cases h))]
  have hl : ((b.drop 2).take (szP b)).length = szP b := by rw [List.length_take, List.length_drop]; omega
  by_cases h0 : szP b = 0
  · have e0 : (b.drop 2).take (szP b) = [] := List.eq_nil_of_length_eq_zero (by omega)
    rw [e0] at s3 e
    have hc : ∀ (T : Store) (K : AV → Store → Prop) (d : Dm K), SpD E 39 [.csl [] 0] T K d = K (.csl [] 0) T := fun T K d => call_clone0 h4
    simp -dsimp only [go_sem, F11, e_unpad, r_unpad, c_sized h1 b.length, ys, s1, c_get01 h2 (b.take 2), g1, w1, y1, w2, s2, ca, y2, s3, enc_nil, hc, e]
    exact conv_pair List.prefix_rfl (fun i h => by simp [topIds, topIdsL] at h) rfl
  · simp -dsimp only [go_sem, F11, e_unpad, r_unpad, c_sized h1 b.length, ys, s1, c_get01 h2 (b.take 2), g1, w1, y1, w2, s2, ca, y2, s3, call_clone h4 _ (show ((b.drop 2).take (szP b)).length ≤ 1000000000000 by omega) (by omega), e]
    exact conv_pair (List.prefix_append _ _) (fun i h => by simp [topIds] at h; omega) (rd_own (rest := []) (by rw [get_new0, List.append_nil]; rfl) (by simp) rfl)
theorem pad_back {b : List UInt8} (h : 2 ≤ b.length) (hs : szP b + 2 ≤ b.length) : decide (padB ((b.drop 2).take (szP b)) b.length = b) = !((b.drop (2 + szP b)).any fun c => decide (¬ c.toNat = 0)) := by
  obtain ⟨b0, b1, r, rfl⟩ : ∃ b0 b1 r, b = b0 :: b1 :: r := by
    match b, h with
    | b0 :: b1 :: r, _ => exact ⟨b0, b1, r, rfl⟩
  have hz : szP (b0 :: b1 :: r) = b0.toNat * 256 + b1.toNat := by simp [szP, ofBE]
  obtain ⟨n, hn⟩ : ∃ n, szP (b0 :: b1 :: r) = n := ⟨_, rfl⟩
  rw [hn] at hz hs ⊢
  simp only [List.length_cons] at hs
  have h0 := b0.toNat_lt
  have h1 := b1.toNat_lt
  have e0 : UInt8.ofNat (n / 256) = b0 := UInt8.toNat_inj.1 (by rw [UInt8.toNat_ofNat']; omega)
  have e1 : UInt8.ofNat (n % 256) = b1 := UInt8.toNat_inj.1 (by rw [UInt8.toNat_ofNat']; omega)
  have hl : (r.take n).length = n := by rw [List.length_take]; omega
  simp only [padB, List.drop_succ_cons, List.drop_zero, hl, e0, e1, List.length_cons, List.cons.injEq, true_and]
  rw [show (2 + n) = n + 2 by omega, List.drop_succ_cons, List.drop_succ_cons, show r.length + 1 + 1 - 2 - n = r.length - n by omega]
  have : (r.take n ++ List.replicate (r.length - n) 0 = r) ↔ r.drop n = List.replicate (r.length - n) 0 := by
    constructor
    · intro q
      have := congrArg (List.drop n) q
      rw [List.drop_left' hl] at this; exact this.symm
    · intro q; rw [← q, List.take_append_drop]
  rw [Bool.eq_iff_iff]
  simp only [decide_eq_true_eq, Bool.not_eq_true', List.any_eq_false, this]
  rw [List.eq_replicate_iff]
  constructor
  · rintro ⟨-, q⟩ c hc; rw [q c hc]; simp
  · intro q; exact ⟨by rw [List.length_drop], fun c hc => UInt8.toNat_inj.1 (by have := q c hc; simp at this; simpa using this)⟩
theorem szP_two : ∀ (b : List UInt8) (h : 2 ≤ b.length), b[0].toNat * 256 + b[1].toNat = szP b
  | b0 :: b1 :: r, _ => by simp [szP, ofBE]
theorem padB_len (b : List UInt8) (n : Nat) : (padB b n).length = 2 + b.length + (n - 2 - b.length) := by simp only [padB, List.length_cons, List.length_append, List.length_replicate]; omega
theorem ok_unpadR {E : Env} (hp : E.prim 12 = none) (hf : E.F 12 = some F12) (h1 : E.prim 9 = some fun _ => p_padR) (h2 : E.prim 10 = some fun _ => p_bsame) : OkG E 12 e_unpadR (gd k_unpadR r_unpadR) := by
  refine OkG.code hp hf (fun _ => rfl) fun b S hk => ?_
  have hk : b.length ≤ 9223372036854775000 := hk
  by_cases y : ¬ b.length = 120 ∧ ¬ b.length = 1020
  · have e : unpadP b = ([], 11) := if_pos y
    have y1 : decide ((b.length : Int) = 120) = false := decide_eq_false (by omega)
    have y2 : decide ((b.length : Int) = 1020) = false := decide_eq_false (by omega)
    simp -dsimp only [go_sem, F12, e_unpadR, r_unpadR, y1, y2, e]
    exact conv_pair List.prefix_rfl (fun i h => by simp [topIds] at h) rfl
  have hb : 120 ≤ b.length ∧ b.length ≤ 1020 := by omega
  have hs := szP_lt b
  have i0 : iaddrA 1 (enc b) (.int .i64 0) = some (.cptr (Rec.c b[0] ++ cl (b.drop 1))) := ia_enc (i := 0) .i64 (by omega) rfl
  have i1 : iaddrA 1 (enc b) (.int .i64 1) = some (.cptr (Rec.c b[1] ++ cl (b.drop 2))) := ia_enc (i := 1) .i64 (by omega) rfl
  have hz := szP_two b (by omega)
  have t0 := b[0].toNat_lt
  have t1 := b[1].toNat_lt
  have v0 : IntKind.i64.wrap (b[0].toNat : Int) = (b[0].toNat : Int) := wrap64 (by omega) (by omega)
  have v1 : IntKind.i64.wrap (b[1].toNat : Int) = (b[1].toNat : Int) := wrap64 (by omega) (by omega)
  have v2 : IntKind.i64.wrap ((256 : Int) * (b[0].toNat : Int)) = (256 : Int) * (b[0].toNat : Int) := wrap64 (by omega) (by omega)
  have v3 : IntKind.i64.wrap ((256 : Int) * (b[0].toNat : Int) + (b[1].toNat : Int)) = (szP b : Nat) := by rw [wrap64 (by omega) (by omega)]; omega
  have w1 : IntKind.i64.wrap ((b.length : Int) - 2) = (b.length : Int) - 2 := wrap64 (by omega) (by omega)
  have w2 : IntKind.i64.wrap (2 + ((szP b : Nat) : Int)) = ((2 + szP b : Nat) : Int) := by rw [wrap64 (by omega) (by omega)]; omega
  have s3 : szP b + 2 ≤ b.length → sliceA 1 (enc b) (some (.int .i64 2)) (some (.int .i64 ((2 + szP b : Nat) : Int))) none = some (enc ((b.drop 2).take (szP b))) := fun h => by
    have := sl_enc (sz := 1) (l := b) (i := 2) (j := 2 + szP b) (lo := some (.int .i64 2)) (hi := some (.int .i64 ((2 + szP b : Nat) : Int))) rfl rfl rfl (by omega) (by omega)
    rw [this, Nat.add_sub_cancel_left]
  have hpad : szP b + 2 ≤ b.length → padP ((b.drop 2).take (szP b)) b.length = (padB ((b.drop 2).take (szP b)) b.length, 0) := fun h => by
    have hl : ((b.drop 2).take (szP b)).length = szP b := by rw [List.length_take, List.length_drop]; omega
    rw [padP, if_neg (by omega), if_neg (by omega), Int.toNat_natCast]
  have hy : decide ((b.length : Int) = 120) = true ∨ decide ((b.length : Int) = 120) = false ∧ decide ((b.length : Int) = 1020) = true := by simp only [decide_eq_true_eq, decide_eq_false_iff_not]; omega
  have cs := fun (T : Store) (K : AV → Store → Prop) (q : Dm K) => c_bsame h2 (padB ((b.drop 2).take (szP b)) b.length) b (by have := List.length_take_le (szP b) (b.drop 2); rw [padB_len]; omega) (S := T) (K := K) (d := q)
  have cq := fun (T : Store) (K : AV → Store → Prop) (q : Dm K) => c_padR h1 ((b.drop 2).take (szP b)) b.length (by rw [List.length_take, List.length_drop]; omega) (S := T) (K := K) (d := q)
  cases y1 : decide ((b.length : Int) - 2 < ((szP b : Nat) : Int))
  rotate_left
  · have e : unpadP b = ([], 11) := by rw [unpadP, if_neg y, if_pos (.inl (by have := of_decide_eq_true y1; omega))]
    rcases hy with z1 | ⟨z1, z2⟩
    all_goals
      first
        | simp -dsimp only [go_sem, F12, e_unpadR, r_unpadR, z1, z2, i0, i1, v0, v1, v2, v3, w1, y1, e]
        | simp -dsimp only [go_sem, F12, e_unpadR, r_unpadR, z1, i0, i1, v0, v1, v2, v3, w1, y1, e]
      exact conv_pair List.prefix_rfl (fun i h => by simp [topIds] at h) rfl
  have y1' := of_decide_eq_false y1
  have hle : szP b + 2 ≤ b.length := by omega
  have s3 := s3 hle
  have hpad := hpad hle
  have hb2 := pad_back (by omega) hle
  rw [hpad] at cq
  cases y2 : (b.drop (2 + szP b)).any fun c => decide (¬ c.toNat = 0)
  rotate_left
  · have e : unpadP b = ([], 11) := by rw [unpadP, if_neg y, if_pos (.inr y2)]
    rw [y2] at hb2
    rcases hy with z1 | ⟨z1, z2⟩
    all_goals
      first
        | simp -dsimp only [go_sem, F12, e_unpadR, r_unpadR, z1, z2, i0, i1, v0, v1, v2, v3, w1, y1, w2, s3, cq, cs, hb2, e]
        | simp -dsimp only [go_sem, F12, e_unpadR, r_unpadR, z1, i0, i1, v0, v1, v2, v3, w1, y1, w2, s3, cq, cs, hb2, e]
      exact conv_pair List.prefix_rfl (fun i h => by simp [topIds] at h) rfl
  have e : unpadP b = ((b.drop 2).take (szP b), 0) := by rw [unpadP, if_neg y, if_neg (fun h => h.elim (fun h => by omega) (fun h => by rw [y2] at h; cases h))]
  rw [y2] at hb2
  rcases hy with z1 | ⟨z1, z2⟩
  all_goals
    first
      | simp -dsimp only [go_sem, F12, e_unpadR, r_unpadR, z1, z2, i0, i1, v0, v1, v2, v3, w1, y1, w2, s3, cq, cs, hb2, e]
      | simp -dsimp only [go_sem, F12, e_unpadR, r_unpadR, z1, i0, i1, v0, v1, v2, v3, w1, y1, w2, s3, cq, cs, hb2, e]
    exact conv_pair List.prefix_rfl (fun i h => by simp [enc_top] at h) (enc_rdS _ _)
end Go.Proofs.YtaajlbbooneiiaaDoor.Avm
set_option linter.unusedVariables false
namespace Go.Proofs.YtaajlbbooneiiaaDoor.Avm
open Go.ChangeShapes Go.WideShapes Go.ChangeAt Go.RowKit
theorem law_laid {C : Checked} {X : World → Array Value → Prop} {os : Os} {f : FuncId} {fn : Func} {s : ChangeSpec} {conds : List PathCond} {H : Type} {en : TypeId × Value → H} {a : Assume} (hX : ∀ (w w' : World) (args : Array Value), w.heap = w'.heap → X w args → X w' args) (own : ownKnob C.prog.godebug = none) (started : os.Started) (noInit : C.prog.inits.idxOf? f = none)
    (hfn : C.prog.funcs[f]? = some fn)
    (witness : ∃ (w : World) (tape : Tape) (i : Input), w.os = os ∧ (w.forCall tape i).Shaped C.prog ∧ i.vars = [] ∧ Input.okWide C.prog (w.forCall tape i) .any w.heap.size f i ∧
      ((s.pre en C.prog fn conds false (w.forCall tape i).memory i.args ∧ X (w.forCall tape i).memory i.args) ∧ sizedMet en C.prog fn (OpenSpec.ofChange s) false (w.forCall tape i).memory i.args) ∧ a.holds C.prog (lone (Frame.enter C.prog f i.args .normal) [] (w.forCall tape i)))
    (hnm : (fn.name == "runtime.NumGoroutine") = false) (hbody : fn.body.isSome = true) (hmix : C.prog.follows .mixedOrders = true) {E : Env} (hE : AllOK C.prog E) {α : Type} {c : α → List AV} {Q : α → Prop} (ho : OpensA C.prog fn.params.toList c Q)
    (hv : s.vars = []) (hs : ∀ ds : List (DataW H), ds.length = fn.params.toList.length → s.fn H ds = { results := [.lit (.bool true)], args := ds }) {rt : TypeId} (hrt : fn.resultTypes = #[rt]) (hbool : C.prog.underlying rt = some .bool)
    (hrun : ∀ a, Q a → ∃ S1, Is E f (c a) [] (.bool true) S1) :
    ReturnsInHanded a C os f .any (fun w args => (s.pre en C.prog fn conds false w args ∧ X w args) ∧ sizedMet en C.prog fn (OpenSpec.ofChange s) false w args) (s.post en C.prog fn false true false false) := by
  refine returnsInHanded_of_change_and (X := X) hX own started noInit hfn witness ?_
  intro W base args ds gs before hval hW _ _ _ _
  have hW' := hW
  obtain ⟨p, q, hA, hV, rfl, hfz, hnd⟩ := hW
  rw [hv] at hV
  obtain ⟨rfl, rfl⟩ := trodVars_none hV
  obtain ⟨⟨x, hq, hvs⟩, hlen, hback⟩ := ho H en W base args.toList ds p (fun j t v a b => hval j t v (by simpa using a) (by simpa using b)) hA
  obtain ⟨S1, N, hN⟩ := hrun x hq
  have hr0 : Rel W ⟨[], W.cell?⟩ [] W := ⟨Below.refl _ _, rfl, fun _ _ h => h, fun a cv i p x _ hp => by simp at hp, fun i j p q x y hp => by simp at hp, fun i p x hp => by simp at hp⟩
  have hd := run_ok hmix (hE W) N f (c x) [] _ S1 (hN N (Nat.le_refl _)) _ W args.toList hr0 hvs
  have hcall : (callFunc f args).run C.prog W = .ok (.enter f args) W := by
    obtain ⟨bd, hbd⟩ := Option.isSome_iff_exists.1 hbody
    simp only [beq_eq_false_iff_ne, ne_eq] at hnm
    simp [callFunc, hfn, hnm, hbd]
  rw [Array.toArray_toList, hcall] at hd
  have hcalls : Calls C.prog f args W (Back W ⟨[], W.cell?⟩ S1 (.bool true)) := by
    rcases hd with ⟨φ', cv, w', k, _⟩ | ⟨f', bs, w1, k, k2⟩
    · rcases k with k | ⟨k, _⟩ <;> cases k
    · cases k; exact k2
  refine hcalls.mono fun e W' hb => ?_
  obtain ⟨φ', cv, rfl, _, hr, hv⟩ := hb
  cases hv
  obtain ⟨ps', hps⟩ := hback W' hr.below
  refine ⟨_, rfl, ds, [], _, [], ps', [], hW', ?_, ?_, ?_, hr.below.frame _, fun h => by cases h⟩
  · rw [List.append_nil, hs ds hlen, hrt]
    exact trodAll_mk1 (shut_bool hbool _)
  · rw [List.append_nil, hs ds hlen]; exact hps
  · rw [List.append_nil, hs ds hlen, hv]; exact rfl
theorem own : ownKnob Tryd.prog.godebug = none := by kernel_rfl
theorem laidOut : laidOutB Tryd.prog = true := by kernel_rfl
def laid3 : List (String × DataW Unit) := Rows.recordBlobsRow.laid
/-- the door's own heap holds what is listed -/
theorem door_met (os : Os) (args : Array Value) : laidMetH Tryd.prog laid3 ((World.doorLaid Tryd.prog 24 os).forCall (fun _ _ => 0) ⟨#[], args, []⟩).memory :=
  laidMetH_of_parts3 (fuel := 8) (laidMet_of_run' 8 (by kernel_rfl) (by kernel_rfl)) (by kernel_rfl) (by kernel_rfl)
theorem opByte : Opens Tryd.prog 5 (Rec.c (α := UInt8)) (fun _ => True) :=
  (Opens.int Tryd.underlying5).byte
theorem opBytes : Opens Tryd.prog 22 (fun l : List UInt8 => [enc l]) (fun l => l.length ≤ maxLen ∧ ∀ a ∈ l, True) := Opens.slice Tryd.underlying22 (by kernel_rfl) opByte
theorem backB : Back1 Tryd.prog 22 := ⟨by kernel_rfl, of_decide_eq_true (by kernel_rfl)⟩
theorem backI : Back1 Tryd.prog 3 := ⟨by kernel_rfl, of_decide_eq_true (by kernel_rfl)⟩
theorem opBytes1 : Opens1 Tryd.prog 22 (fun l : List UInt8 => enc l) (fun l => l.length ≤ maxLen ∧ ∀ a ∈ l, True) := Opens1.slice Tryd.underlying22 opBytes
end Go.Proofs.YtaajlbbooneiiaaDoor.Avm
set_option maxRecDepth 100000
namespace Go.Proofs.YtaajlbbooneiiaaDoor.Avm
open Go
theorem C3 : compF Tryd.prog [0, 1, 4, 5, 6, 7, 8, 9, 10, 11, 12, 14, 17, 38, 40, 53] Tryd.f3 = some F3 := by kernel_rfl
theorem C4 : compF Tryd.prog [0, 1, 2, 6, 8, 9, 10, 11, 12, 13, 14, 15, 16, 17, 18, 19, 20, 21, 23, 36, 37, 38, 39, 40, 45, 55, 62, 78, 80, 104] Tryd.f4 = some F4 := by kernel_rfl
theorem C5 : compF Tryd.prog [0, 1, 2, 4, 5, 6, 7, 8, 9, 10, 11, 12, 14, 53, 60, 84, 91, 110] Tryd.f5 = some F5 := by kernel_rfl
theorem C6 : compF Tryd.prog [0, 1, 2, 4, 5, 6, 7, 8, 9, 10, 11, 12, 14, 53, 60, 84, 91, 110] Tryd.f6 = some F6 := by kernel_rfl
theorem C7 : compF Tryd.prog [0, 1, 2] Tryd.f7 = some F7 := by kernel_rfl
theorem C8 : compF Tryd.prog [0, 1, 4, 5, 6, 8, 12] Tryd.f8 = some F8 := by kernel_rfl
theorem C9 : compF Tryd.prog [0, 1, 4, 5, 6, 12, 17, 33] Tryd.f9 = some F9 := by kernel_rfl
theorem C10 : compF Tryd.prog [0, 1, 4, 5, 10, 14, 25] Tryd.f10 = some F10 := by kernel_rfl
theorem C11 : compF Tryd.prog [0, 2, 3, 4, 9, 27] Tryd.f11 = some F11 := by kernel_rfl
theorem C12 : compF Tryd.prog [0, 2, 3, 4, 5, 6, 15, 30, 45] Tryd.f12 = some F12 := by kernel_rfl
theorem C13 : compF Tryd.prog [0, 1, 4, 5, 6, 8, 10, 11, 12, 14, 15, 16, 17, 28, 29, 30, 31, 48] Tryd.f13 = some F13 := by kernel_rfl
theorem C14 : compF Tryd.prog [0, 2, 3, 7, 21] Tryd.f14 = some F14 := by kernel_rfl
theorem C15 : compF Tryd.prog [0, 1, 4, 5, 6, 7, 11, 25] Tryd.f15 = some F15 := by kernel_rfl
theorem C16 : compF Tryd.prog [0, 1, 2, 6, 7, 8, 9, 10, 11, 12, 13, 14, 15, 27, 59, 61, 62, 63, 64, 68, 82] Tryd.f16 = some F16 := by kernel_rfl
theorem C17 : compF Tryd.prog [0, 1, 4, 5, 10, 14, 25] Tryd.f17 = some F17 := by kernel_rfl
theorem C18 : compF Tryd.prog [0, 1, 4, 5, 10, 12, 13, 14, 25] Tryd.f18 = some F18 := by kernel_rfl
theorem C19 : compF Tryd.prog [0, 1, 2, 6, 7, 8, 9, 10, 11, 12, 13, 14, 26, 63, 68, 73, 80, 96] Tryd.f19 = some F19 := by kernel_rfl
theorem C20 : compF Tryd.prog [0, 1, 2, 3, 4, 7, 9] Tryd.f20 = some F20 := by kernel_rfl
theorem C21 : compF Tryd.prog [0, 1, 2, 43, 45] Tryd.f21 = some F21 := by kernel_rfl
theorem C22 : compF Tryd.prog [0, 2, 3, 4, 5, 6, 7, 8, 15, 40, 89] Tryd.f22 = some F22 := by kernel_rfl
theorem C23 : compF Tryd.prog [0, 1, 2, 3, 5] Tryd.f23 = some F23 := by kernel_rfl
theorem C24 : compF Tryd.prog [0, 1, 2, 3, 4, 51] Tryd.f24 = some F24 := by kernel_rfl
theorem C25 : compF Tryd.prog [0, 2, 3, 4, 5, 6, 7, 14, 20, 78] Tryd.f25 = some F25 := by kernel_rfl
theorem C26 : compF Tryd.prog [0, 1, 2, 3, 4, 6, 9, 12, 13, 14, 15] Tryd.f26 = some F26 := by kernel_rfl
theorem C27 : compF Tryd.prog [0, 1, 2, 3, 39, 58, 63, 83, 101, 109] Tryd.f27 = some F27 := by kernel_rfl
theorem C28 : compF Tryd.prog [0, 2, 3, 4, 5, 6, 7, 8, 10, 11, 12, 19, 37, 81, 82, 83, 84, 94, 114] Tryd.f28 = some F28 := by kernel_rfl
theorem C29 : compF Tryd.prog [0, 1, 2, 3, 4, 9] Tryd.f29 = some F29 := by kernel_rfl
theorem C30 : compF Tryd.prog [0, 1, 2, 3, 4, 5, 54, 59, 72] Tryd.f30 = some F30 := by kernel_rfl
theorem C31 : compF Tryd.prog [0, 2, 3, 4, 5, 6, 7, 8, 9, 16, 22, 71, 84, 112] Tryd.f31 = some F31 := by kernel_rfl
theorem C32 : compF Tryd.prog [0, 2] Tryd.f32 = some F32 := by kernel_rfl
theorem C33 : compF Tryd.prog [0, 2] Tryd.f33 = some F33 := by kernel_rfl
theorem C34 : compF Tryd.prog [0, 2] Tryd.f34 = some F34 := by kernel_rfl
theorem C35 : compF Tryd.prog [0, 1, 4, 5, 6, 7] Tryd.f35 = some F35 := by kernel_rfl
theorem C36 : compF Tryd.prog [0, 2, 3, 4, 6, 7, 11, 15, 16, 17, 18, 28] Tryd.f36 = some F36 := by kernel_rfl
theorem C37 : compF Tryd.prog [0, 1, 4] Tryd.f37 = some F37 := by kernel_rfl
theorem C38 : compF Tryd.prog [0, 2] Tryd.f38 = some F38 := by kernel_rfl
theorem C39 : compF Tryd.prog [0, 2, 4] Tryd.f39 = some F39 := by kernel_rfl
theorem C40 : compF Tryd.prog [0, 2] Tryd.f40 = some F40 := by kernel_rfl
theorem C41 : compF Tryd.prog [0, 2] Tryd.f41 = some F41 := by kernel_rfl
theorem C42 : compF Tryd.prog [0, 2] Tryd.f42 = some F42 := by kernel_rfl
theorem C43 : compF Tryd.prog [0, 1, 2, 3, 5, 12] Tryd.f43 = some F43 := by kernel_rfl
theorem C44 : compF Tryd.prog [0, 2] Tryd.f44 = some F44 := by kernel_rfl
theorem C45 : compF Tryd.prog [0, 2] Tryd.f45 = some F45 := by kernel_rfl
theorem C46 : compF Tryd.prog [0, 1, 2, 3, 4, 5, 6, 8, 10, 11, 13, 14, 17, 21, 30, 44, 75] Tryd.f46 = some F46 := by kernel_rfl
theorem C47 : compF Tryd.prog [0, 2] Tryd.f47 = some F47 := by kernel_rfl
theorem C48 : compF Tryd.prog [0, 2, 3, 4, 5, 8, 27, 35] Tryd.f48 = some F48 := by kernel_rfl
theorem C49 : compF Tryd.prog [0, 2, 3, 4, 5, 6, 9, 18, 24] Tryd.f49 = some F49 := by kernel_rfl
theorem C50 : compF Tryd.prog [0, 1, 2, 3, 20, 47] Tryd.f50 = some F50 := by kernel_rfl
theorem C51 : compF Tryd.prog [0, 2] Tryd.f51 = some F51 := by kernel_rfl
theorem C52 : compF Tryd.prog [0, 2, 3, 4, 5, 13, 17, 45] Tryd.f52 = some F52 := by kernel_rfl
theorem C53 : compF Tryd.prog [0, 1, 2, 6] Tryd.f53 = some F53 := by kernel_rfl
theorem C54 : compF Tryd.prog [0, 1, 2, 4, 5, 6, 7, 18, 19, 20, 21, 22, 26, 27, 29, 38] Tryd.f54 = some F54 := by kernel_rfl
theorem C55 : compF Tryd.prog [0, 2] Tryd.f55 = some F55 := by kernel_rfl
theorem C56 : compF Tryd.prog [0, 1, 2, 4, 5, 16, 20, 33] Tryd.f56 = some F56 := by kernel_rfl
theorem C57 : compF Tryd.prog [0, 1, 2, 3, 26, 47, 68] Tryd.f57 = some F57 := by kernel_rfl
theorem C60 : compF Tryd.prog [0, 1, 4, 5, 6, 7, 33, 37, 38, 39] Tryd.f60 = some F60 := by kernel_rfl
theorem C61 : compF Tryd.prog [0, 2, 3] Tryd.f61 = some F61 := by kernel_rfl
theorem C62 : compF Tryd.prog [0, 1, 4, 5, 7, 8, 9, 16] Tryd.f62 = some F62 := by kernel_rfl
theorem C63 : compF Tryd.prog [0, 1, 2, 3, 4, 5, 16] Tryd.f63 = some F63 := by kernel_rfl
theorem C64 : compF Tryd.prog [0, 1, 3, 4, 5, 6, 8, 11, 13, 14, 27, 57, 58, 59, 60] Tryd.f64 = some F64 := by kernel_rfl
theorem C65 : compF Tryd.prog [0, 1, 4, 5, 6, 7] Tryd.f65 = some F65 := by kernel_rfl
theorem C66 : compF Tryd.prog [0, 1, 4, 5, 6, 7, 8, 15, 20, 21, 25, 33, 42, 55] Tryd.f66 = some F66 := by kernel_rfl
theorem C67 : compF Tryd.prog [0, 1, 2, 6, 7, 8, 9, 10, 11, 12, 13, 15, 17, 18, 19, 20, 21, 25, 35, 39, 49, 56, 59, 80, 88, 93, 111, 124, 130, 148, 153, 166] Tryd.f67 = some F67 := by kernel_rfl
theorem C68 : compF Tryd.prog [0, 2, 3, 4, 6, 7, 8, 26] Tryd.f68 = some F68 := by kernel_rfl
theorem C69 : compF Tryd.prog [0, 2] Tryd.f69 = some F69 := by kernel_rfl
theorem C70 : compF Tryd.prog [0, 1, 4] Tryd.f70 = some F70 := by kernel_rfl
theorem C71 : compF Tryd.prog [0, 1, 2, 6, 8, 25, 26, 27, 28, 29, 41] Tryd.f71 = some F71 := by kernel_rfl
theorem C76 : compF Tryd.prog [0, 2, 3, 9] Tryd.f76 = some F76 := by kernel_rfl
theorem C77 : compF Tryd.prog [0, 1, 2, 3, 6, 7, 8, 10, 11, 12, 23, 25, 26, 33, 40, 42, 43, 44, 45, 59] Tryd.f77 = some F77 := by kernel_rfl
theorem C78 : compF Tryd.prog [0, 2, 3, 18] Tryd.f78 = some F78 := by kernel_rfl
theorem C79 : compF Tryd.prog [0, 1, 4, 5, 6, 7, 21, 24, 36] Tryd.f79 = some F79 := by kernel_rfl
theorem C80 : compF Tryd.prog [0, 2, 3, 4, 9] Tryd.f80 = some F80 := by kernel_rfl
theorem C81 : compF Tryd.prog [0, 1, 4, 5, 19, 27] Tryd.f81 = some F81 := by kernel_rfl
theorem C82 : compF Tryd.prog [0, 2, 3, 4, 5, 6, 10, 18, 32] Tryd.f82 = some F82 := by kernel_rfl
theorem C83 : compF Tryd.prog [0, 1, 4, 5] Tryd.f83 = some F83 := by kernel_rfl
theorem C84 : compF Tryd.prog [0, 6] Tryd.f84 = some F84 := by kernel_rfl
theorem C85 : compF Tryd.prog [0, 2, 3, 4, 5, 6, 9, 12, 16, 33] Tryd.f85 = some F85 := by kernel_rfl
theorem C89 : compF Tryd.prog [0, 1, 2, 3, 4, 5, 18, 19, 29, 35] Tryd.f89 = some F89 := by kernel_rfl
end Go.Proofs.YtaajlbbooneiiaaDoor.Avm
set_option linter.unusedVariables false
set_option maxRecDepth 100000
namespace Go.Proofs.YtaajlbbooneiiaaDoor.Avm
open Go
theorem hmix : Tryd.prog.follows .mixedOrders = true := by kernel_rfl
def tab0 : List (Nat × AFunc) := [(3, F3), (4, F4), (5, F5), (6, F6), (7, F7), (8, F8), (9, F9), (10, F10), (11, F11), (12, F12), (13, F13), (14, F14), (15, F15), (16, F16), (17, F17), (18, F18), (19, F19), (20, F20), (21, F21), (22, F22), (23, F23), (24, F24), (25, F25), (26, F26), (27, F27), (28, F28), (29, F29), (30, F30), (31, F31), (32, F32), (33, F33), (34, F34), (35, F35), (36, F36), (37, F37), (38, F38), (39, F39), (40, F40), (41, F41), (42, F42), (43, F43), (44, F44), (45, F45), (46, F46), (47, F47), (48, F48), (49, F49), (50, F50), (51, F51), (52, F52), (53, F53), (54, F54), (55, F55), (56, F56), (57, F57), (60, F60), (61, F61), (62, F62), (63, F63), (64, F64), (65, F65), (66, F66), (67, F67), (68, F68), (69, F69), (70, F70), (71, F71), (76, F76), (77, F77), (78, F78), (79, F79), (80, F80), (81, F81), (82, F82), (83, F83), (84, F84), (85, F85), (89, F89)]
def E0 : Env := ⟨tabF tab0, fun _ => none⟩
theorem tab_ok : TabOK Tryd.prog tab0 := .cons Tryd.func3 C3 (.cons Tryd.func4 C4 (.cons Tryd.func5 C5 (.cons Tryd.func6 C6 (.cons Tryd.func7 C7 (.cons Tryd.func8 C8 (.cons Tryd.func9 C9 (.cons Tryd.func10 C10 (.cons Tryd.func11 C11 (.cons Tryd.func12 C12 (.cons Tryd.func13 C13 (.cons Tryd.func14 C14 (.cons Tryd.func15 C15 (.cons Tryd.func16 C16 (.cons Tryd.func17 C17 (.cons Tryd.func18 C18 (.cons Tryd.func19 C19 (.cons Tryd.func20 C20 (.cons Tryd.func21 C21 (.cons Tryd.func22 C22 (.cons Tryd.func23 C23 (.cons Tryd.func24 C24 (.cons Tryd.func25 C25 (.cons Tryd.func26 C26 (.cons Tryd.func27 C27 (.cons Tryd.func28 C28 (.cons Tryd.func29 C29 (.cons Tryd.func30 C30 (.cons Tryd.func31 C31 (.cons Tryd.func32 C32 (.cons Tryd.func33 C33 (.cons Tryd.func34 C34 (.cons Tryd.func35 C35 (.cons Tryd.func36 C36 (.cons Tryd.func37 C37 (.cons Tryd.func38 C38 (.cons Tryd.func39 C39 (.cons Tryd.func40 C40 (.cons Tryd.func41 C41 (.cons Tryd.func42 C42 (.cons Tryd.func43 C43 (.cons Tryd.func44 C44 (.cons Tryd.func45 C45 (.cons Tryd.func46 C46 (.cons Tryd.func47 C47 (.cons Tryd.func48 C48 (.cons Tryd.func49 C49 (.cons Tryd.func50 C50 (.cons Tryd.func51 C51 (.cons Tryd.func52 C52 (.cons Tryd.func53 C53 (.cons Tryd.func54 C54 (.cons Tryd.func55 C55 (.cons Tryd.func56 C56 (.cons Tryd.func57 C57 (.cons Tryd.func60 C60 (.cons Tryd.func61 C61 (.cons Tryd.func62 C62 (.cons Tryd.func63 C63 (.cons Tryd.func64 C64 (.cons Tryd.func65 C65 (.cons Tryd.func66 C66 (.cons Tryd.func67 C67 (.cons Tryd.func68 C68 (.cons Tryd.func69 C69 (.cons Tryd.func70 C70 (.cons Tryd.func71 C71 (.cons Tryd.func76 C76 (.cons Tryd.func77 C77 (.cons Tryd.func78 C78 (.cons Tryd.func79 C79 (.cons Tryd.func80 C80 (.cons Tryd.func81 C81 (.cons Tryd.func82 C82 (.cons Tryd.func83 C83 (.cons Tryd.func84 C84 (.cons Tryd.func85 C85 (.cons Tryd.func89 C89 (.nil))))))))))))))))))))))))))))))))))))))))))))))))))))))))))))))))))))))))))))))
theorem A0 : AllOK Tryd.prog E0 := tab_ok.allOK
theorem join_enters : Enters Tryd.prog 58 := enters_of Tryd.func58 (by kernel_rfl) rfl
theorem itoa_enters : Enters Tryd.prog 59 := enters_of Tryd.func59 (by kernel_rfl) rfl
noncomputable def E1 : Env := E0.add 58 joinP
theorem A1 : AllOK Tryd.prog E1 := AllOK.addC A0 (join_ok join_enters strings_Join)
noncomputable def E2 : Env := E1.add 59 itoaP
theorem A2 : AllOK Tryd.prog E2 := AllOK.addC A1 (itoa_ok itoa_enters fun i w h => strconv_Itoa_small i h w)
theorem awake_run : (run E2 80 7 [] []).map (·.1) = some (.bool true) := by kernel_rfl
theorem awake_is (a : Unit) (v : AV) (h : gd k_awake35 r_awake35 a = some v) : ∃ N S1, run E2 N 7 (e_awake35 a) [] = some (v, S1) := by
  obtain ⟨_, rfl⟩ := gd_inv h
  obtain ⟨p, h1, h2⟩ := Option.map_eq_some_iff.1 awake_run
  exact ⟨80, p.2, by rw [show e_awake35 a = [] from rfl, h1]; exact congrArg some (Prod.ext h2 rfl)⟩
noncomputable def E3 : Env := E2.add 7 p_awake35
theorem A3 : AllOK Tryd.prog E3 := AllOK.addRun hmix A2 (Scal.gd fun _ => Scal.bool _) (awake_is)
theorem base_env : AllOK Tryd.prog E3 := A3
end Go.Proofs.YtaajlbbooneiiaaDoor.Avm
set_option linter.unusedVariables false
set_option maxRecDepth 100000
namespace Go.Proofs.YtaajlbbooneiiaaDoor.Avm.Pd
open Go
noncomputable def E1 : Env := E0.add 60 p_low
theorem A1 : AllOK Tryd.prog E1 := AllOK.addG hmix A0 (by apply ok_low <;> rfl)
noncomputable def E2 : Env := E1.add 39 (primO (fun l : List UInt8 => [enc l]) (ownRow 1000000000000))
theorem A2 : AllOK Tryd.prog E2 := AllOK.addN hmix A1 ((ok_cloneF (α := UInt8) (m := 1000000000000) rfl rfl rfl (by decide)))
noncomputable def E3 : Env := E2.add 61 (primO (fun l : List UInt8 => [enc l]) o_turned)
theorem A3 : AllOK Tryd.prog E3 := AllOK.addO hmix A2 (by apply ok_turnedO <;> rfl)
noncomputable def E4 : Env := E3.add 35 (primO e_putO o_put)
theorem A4 : AllOK Tryd.prog E4 := AllOK.addO hmix A3 (by apply ok_putO <;> rfl)
noncomputable def E5 : Env := E4.add 34 p_sized
theorem A5 : AllOK Tryd.prog E5 := AllOK.addS hmix A4 (Scal.gd fun _ => Scal.bool _) (by apply ok_sized <;> rfl)
noncomputable def E6 : Env := E5.add 8 p_pad
theorem A6 : AllOK Tryd.prog E6 := AllOK.addG hmix A5 (by apply ok_pad <;> rfl)
theorem env : AllOK Tryd.prog E6 := A6
theorem pad_is : E6.prim 8 = some fun _ => p_pad := rfl
end Go.Proofs.YtaajlbbooneiiaaDoor.Avm.Pd
set_option linter.unusedVariables false
set_option linter.unusedSimpArgs false
set_option maxRecDepth 10000
namespace Go.Proofs.YtaajlbbooneiiaaDoor.Avm
theorem szP_padB {b : List UInt8} {N : Nat} (h : b.length ≤ 1018) : szP (padB b N) = b.length := by
  have : szP (padB b N) = (UInt8.ofNat (b.length / 256)).toNat * 256 + (UInt8.ofNat (b.length % 256)).toNat := by simp [szP, padB, ofBE]
  rw [this, UInt8.toNat_ofNat', UInt8.toNat_ofNat']; omega
theorem unpad_padB {b : List UInt8} {N : Nat} (hN : N = 120 ∨ N = 1020) (h : b.length + 2 ≤ N) : unpadP (padB b N) = (b, 0) := by
  have hl : (padB b N).length = N := by rw [padB_len]; omega
  have hs : szP (padB b N) = b.length := szP_padB (by omega)
  have hd : (padB b N).drop 2 = b ++ List.replicate (N - 2 - b.length) 0 := rfl
  have hd2 : (padB b N).drop (2 + b.length) = List.replicate (N - 2 - b.length) 0 := by rw [← List.drop_drop, hd, List.drop_left]
  unfold unpadP
  rw [hl, hs, hd2, hd, if_neg (by omega), if_neg (fun q => q.elim (fun q => by omega) (fun q => by
    obtain ⟨c, hc, hc2⟩ := List.any_eq_true.1 q
    rw [List.eq_of_mem_replicate hc] at hc2; cases hc2)), List.take_left]
theorem unpad_pad {b : List UInt8} {n : Int} (h : (padP b n).2 = 0) : unpadP (padP b n).1 = (b, 0) ∧ (padP b n).1.length ≤ 1020 := by
  unfold padP at h ⊢
  split at h
  · cases h
  rename_i h1
  rw [if_neg h1]
  split at h
  · cases h
  rename_i h2
  rw [if_neg h2]
  exact ⟨unpad_padB (by omega) (by omega), by rw [padB_len]; omega⟩
theorem padP_len (b : List UInt8) (n : Int) : (padP b n).1.length ≤ 1020 := by
  by_cases h : (padP b n).2 = 0
  · exact (unpad_pad h).2
  · unfold padP at h ⊢
    split
    · simp
    · split
      · simp
      · rename_i h1 h2; rw [if_neg h1, if_neg h2] at h; exact absurd rfl h
theorem unpadP_len (b : List UInt8) : (unpadP b).1.length ≤ b.length := by
  unfold unpadP
  split
  · simp
  · split
    · simp
    · simp only [List.length_take, List.length_drop]; omega
theorem ok_recordBlobs {E : Env} (hp : E.prim 3 = none) (hf : E.F 3 = some F3) (h1 : E.prim 7 = some fun _ => p_awake35) (h2 : E.prim 8 = some fun _ => p_pad) (h3 : E.prim 9 = some fun _ => p_padR)
    (h4 : E.prim 11 = some fun _ => p_unpad) (h5 : E.prim 12 = some fun _ => p_unpadR) (h6 : E.prim 10 = some fun _ => p_bsame) : OkS E 3 e_recordBlobs (gd k_recordBlobs r_recordBlobs) := by
  refine OkS.code hp hf (fun _ => rfl) fun ⟨b, n⟩ hk => ?_
  cases y : decide ((2000 : Int) < (b.length : Int))
  rotate_left
  · simp -dsimp only [go_sem, F3, e_recordBlobs, r_recordBlobs, c_awake35 h1, y]
  have hb : b.length ≤ 2000 := by have := of_decide_eq_false y; omega
  have hk : b.length ≤ 9223372036854775000 := by omega
  have hpl := padP_len b n
  have hul := unpadP_len b
  have cs : ∀ (l : List UInt8), l.length ≤ 2000 → ∀ (S : Store) (K : AV → Store → Prop) (d : Dm K), SpD E 10 [enc l, enc l] S K d = K (.bool true) S := fun l hl S K d => by
    have := c_bsame h6 l l (by omega) (S := S) (K := K) (d := d)
    rw [decide_eq_true rfl] at this; exact this
  have cs1 := cs (padP b n).1 (by omega)
  have cs2 := cs (unpadP b).1 (by omega)
  have cs3 := cs b hb
  have cu := fun (S : Store) (K : AV → Store → Prop) (d : Dm K) => c_unpad h4 (padP b n).1 (by omega) (S := S) (K := K) (d := d)
  cases y2 : decide ((padP b n).2 = 0)
  · simp -dsimp only [go_sem, F3, e_recordBlobs, r_recordBlobs, c_awake35 h1, y, c_pad h2 b n hk, c_padR h3 b n hk, cs1, y2, c_unpad h4 b hk, c_unpadR h5 b hk, cs2]
  · rw [(unpad_pad (of_decide_eq_true y2)).1] at cu
    simp -dsimp only [go_sem, F3, e_recordBlobs, r_recordBlobs, c_awake35 h1, y, c_pad h2 b n hk, c_padR h3 b n hk, cs1, y2, cu, cs3, c_unpad h4 b hk, c_unpadR h5 b hk, cs2]
end Go.Proofs.YtaajlbbooneiiaaDoor.Avm
