/- Records, lists of records as slices, a call's own rows, loops over ranges. Ways to say what a function does, and the words of the walk. Regions whose loads may come up early or late. Rows of records, read and written in place. Calls that answer with a row of their own; rows of which it is asked whether they are nil. -/
import Derived.Test.YtaajlbbooneiiaaDoorZ2
import Derived.Test.YtaajlbbooneiiaaDoorZ6
set_option linter.unusedVariables false
set_option linter.unusedSimpArgs false
set_option linter.unusedSectionVars false
namespace Go.Proofs.YtaajlbbooneiiaaDoor.Avm

/-- cells that lead to no object -/
def PureL (cs : List AV) : Prop := rd0L cs = some cs
theorem rd0L_append {a b a' b' : List AV} (ha : rd0L a = some a') (hb : rd0L b = some b') : rd0L (a ++ b) = some (a' ++ b') := by
  induction a generalizing a' with
  | nil => simp only [rd0L, Option.some.injEq] at ha; subst ha; exact hb
  | cons v l ih =>
    simp only [rd0L, Option.bind_eq_some_iff, Option.map_eq_some_iff] at ha
    obtain ⟨u, h1, us, h2, rfl⟩ := ha
    simp only [List.cons_append, rd0L, h1, Option.bind_some, ih h2, Option.map_some]
theorem PureL.append {a b : List AV} (ha : PureL a) (hb : PureL b) : PureL (a ++ b) := rd0L_append ha hb
theorem PureL.nil : PureL [] := rfl
theorem rd0L_cons {v : AV} {l : List AV} (h : rd0 v = some v) (k : PureL l) : PureL (v :: l) := by
  simp only [PureL, rd0L, h, Option.bind_some]; rw [show rd0L l = some l from k]; rfl
theorem PureL.head {v : AV} {l : List AV} (h : PureL (v :: l)) : rd0 v = some v ∧ PureL l := by
  simp only [PureL, rd0L, Option.bind_eq_some_iff, Option.map_eq_some_iff, List.cons.injEq] at h
  obtain ⟨u, h1, us, h2, rfl, rfl⟩ := h
  exact ⟨h1, h2⟩
theorem PureL.drop {l : List AV} (h : PureL l) : ∀ n, PureL (l.drop n) := by
  induction l with
  | nil => intro n; simpa using h
  | cons v l ih => intro n; cases n with
    | zero => exact h
    | succ n => exact ih h.head.2 n
theorem PureL.take {l : List AV} (h : PureL l) : ∀ n, PureL (l.take n) := by
  induction l with
  | nil => intro n; simpa using h
  | cons v l ih => intro n; cases n with
    | zero => exact .nil
    | succ n => exact rd0L_cons h.head.1 (ih h.head.2 n)
theorem PureL.mem {l : List AV} (h : PureL l) : ∀ v, v ∈ l → rd0 v = some v := by
  induction l with
  | nil => intro v hv; cases hv
  | cons u l ih => intro v hv; cases hv with
    | head => exact h.head.1
    | tail _ hv => exact ih h.head.2 v hv

mutual
theorem rd0_idem : ∀ (v u : AV), rd0 v = some u → rd0 u = some u
  | .nilS, u, h | .emp, u, h | .nsl, u, h | .int _ _, u, h | .bool _, u, h | .str _, u, h | .nilP, u, h | .nilM, u, h | .nilC, u, h | .nilF, u, h | .nilI, u, h => by
    simp only [rd0, Option.some.injEq] at h; subst h; rfl
  | .csl cs n, u, h | .csln cs n, u, h => by
    simp only [rd0, Option.map_eq_some_iff] at h
    obtain ⟨ds, h, rfl⟩ := h
    simp only [rd0]; rw [rd0L_idem _ _ h]; rfl
  | .cptr cs, u, h | .agg cs, u, h | .tup cs, u, h | .fn _ cs, u, h => by
    simp only [rd0, Option.map_eq_some_iff] at h
    obtain ⟨ds, h, rfl⟩ := h
    simp only [rd0]; rw [rd0L_idem _ _ h]; rfl
  | .ptr _ _, u, h | .sl _ _ _ _, u, h | .slc _ _ _ _ _, u, h | .map _, u, h | .chan _, u, h | .junk, u, h => by simp [rd0] at h
theorem rd0L_idem : ∀ (l m : List AV), rd0L l = some m → rd0L m = some m
  | [], m, h => by simp only [rd0L, Option.some.injEq] at h; subst h; rfl
  | v :: l, m, h => by
    simp only [rd0L, Option.bind_eq_some_iff, Option.map_eq_some_iff] at h
    obtain ⟨u, h1, us, h2, rfl⟩ := h
    simp only [rd0L, rd0_idem _ _ h1, Option.bind_some, rd0L_idem _ _ h2, Option.map_some]
end

mutual
theorem rd0_Cv (S : Store) (ρ : Nat → Option Nat) : ∀ (v u : AV), rd0 v = some u → Cv S ρ v u
  | .nilS, u, h => by simp only [rd0, Option.some.injEq] at h; subst h; exact .nilS0
  | .emp, u, h => by simp only [rd0, Option.some.injEq] at h; subst h; exact .emp0
  | .nsl, u, h => by simp only [rd0, Option.some.injEq] at h; subst h; exact .nsl0
  | .int _ _, u, h => by simp only [rd0, Option.some.injEq] at h; subst h; exact .int _ _
  | .bool _, u, h => by simp only [rd0, Option.some.injEq] at h; subst h; exact .bool _
  | .str _, u, h => by simp only [rd0, Option.some.injEq] at h; subst h; exact .str _
  | .nilP, u, h => by simp only [rd0, Option.some.injEq] at h; subst h; exact .nilP
  | .nilM, u, h => by simp only [rd0, Option.some.injEq] at h; subst h; exact .nilM
  | .nilC, u, h => by simp only [rd0, Option.some.injEq] at h; subst h; exact .nilC
  | .nilF, u, h => by simp only [rd0, Option.some.injEq] at h; subst h; exact .nilF
  | .nilI, u, h => by simp only [rd0, Option.some.injEq] at h; subst h; exact .nilI
  | .csl cs n, u, h => by
    simp only [rd0, Option.map_eq_some_iff] at h
    obtain ⟨ds, h, rfl⟩ := h
    obtain ⟨h1, h2⟩ := rd0L_Cv S ρ _ _ h
    exact .csl h1 h2
  | .csln cs n, u, h => by
    simp only [rd0, Option.map_eq_some_iff] at h
    obtain ⟨ds, h, rfl⟩ := h
    obtain ⟨h1, h2⟩ := rd0L_Cv S ρ _ _ h
    exact .cslnF h1 h2
  | .cptr cs, u, h => by
    simp only [rd0, Option.map_eq_some_iff] at h
    obtain ⟨ds, h, rfl⟩ := h
    obtain ⟨h1, h2⟩ := rd0L_Cv S ρ _ _ h
    exact .cptr h1 h2
  | .agg cs, u, h => by
    simp only [rd0, Option.map_eq_some_iff] at h
    obtain ⟨ds, h, rfl⟩ := h
    obtain ⟨h1, h2⟩ := rd0L_Cv S ρ _ _ h
    exact .agg h1 h2
  | .tup cs, u, h => by
    simp only [rd0, Option.map_eq_some_iff] at h
    obtain ⟨ds, h, rfl⟩ := h
    obtain ⟨h1, h2⟩ := rd0L_Cv S ρ _ _ h
    exact .tup h1 h2
  | .fn f cs, u, h => by
    simp only [rd0, Option.map_eq_some_iff] at h
    obtain ⟨ds, h, rfl⟩ := h
    obtain ⟨h1, h2⟩ := rd0L_Cv S ρ _ _ h
    exact .fn h1 h2
  | .ptr _ _, u, h | .sl _ _ _ _, u, h | .slc _ _ _ _ _, u, h | .map _, u, h | .chan _, u, h | .junk, u, h => by simp [rd0] at h
theorem rd0L_Cv (S : Store) (ρ : Nat → Option Nat) : ∀ (l m : List AV), rd0L l = some m → l.length = m.length ∧ ∀ (j : Nat) (v u : AV), l[j]? = some v → m[j]? = some u → Cv S ρ v u
  | [], m, h => by simp only [rd0L, Option.some.injEq] at h; subst h; exact ⟨rfl, fun j v u h => by simp at h⟩
  | v :: l, m, h => by
    simp only [rd0L, Option.bind_eq_some_iff, Option.map_eq_some_iff] at h
    obtain ⟨u, h1, us, h2, rfl⟩ := h
    obtain ⟨q1, q2⟩ := rd0L_Cv S ρ _ _ h2
    refine ⟨by simp [q1], fun j a b ha hb => ?_⟩
    cases j with
    | zero => simp at ha hb; subst ha; subst hb; exact rd0_Cv S ρ _ _ h1
    | succ j => simp at ha hb; exact q2 j a b ha hb
end

mutual
theorem rdS_Cv {S : Store} {ρ : Nat → Option Nat} : ∀ (v u : AV), (∀ i, i ∈ topIds v → ρ i = none) → rdS S v = some u → Cv S ρ v u
  | .sl id off n sz, u, hD, h => by
    simp only [rdS] at h
    split at h
    · rename_i cs hS
      split at h
      · rename_i hb
        obtain ⟨ds, h', rfl⟩ := Option.map_eq_some_iff.1 h
        obtain ⟨q1, q2⟩ := rd0L_Cv S ρ _ _ h'
        exact .fsl (hD id (by simp [topIds])) hS hb q1 q2
      · cases h
    · cases h
  | .slc id off n c sz, u, hD, h => by
    simp only [rdS] at h
    split at h
    · rename_i cs hS
      split at h
      · rename_i hb
        obtain ⟨ds, h', rfl⟩ := Option.map_eq_some_iff.1 h
        obtain ⟨q1, q2⟩ := rd0L_Cv S ρ _ _ h'
        exact .fslc (hD id (by simp [topIds])) hS hb q1 q2
      · cases h
    · cases h
  | .agg cs, u, hD, h => by
    simp only [rdS, Option.map_eq_some_iff] at h
    obtain ⟨ds, h, rfl⟩ := h
    obtain ⟨q1, q2⟩ := rdSL_Cv cs ds (fun i hi => hD i (by simpa [topIds] using hi)) h
    exact .agg q1 q2
  | .tup cs, u, hD, h => by
    simp only [rdS, Option.map_eq_some_iff] at h
    obtain ⟨ds, h, rfl⟩ := h
    obtain ⟨q1, q2⟩ := rdSL_Cv cs ds (fun i hi => hD i (by simpa [topIds] using hi)) h
    exact .tup q1 q2
  | .csl cs n, u, hD, h => by
    simp only [rdS, Option.map_eq_some_iff] at h
    obtain ⟨ds, h, rfl⟩ := h
    obtain ⟨q1, q2⟩ := rdSL_Cv cs ds (fun i hi => hD i (by simpa [topIds] using hi)) h
    exact .csl q1 q2
  | .nilS, u, hD, h | .emp, u, hD, h | .nsl, u, hD, h | .csln _ _, u, hD, h | .cptr _, u, hD, h | .fn _ _, u, hD, h | .int _ _, u, hD, h | .bool _, u, hD, h
  | .str _, u, hD, h | .nilP, u, hD, h | .nilM, u, hD, h | .nilC, u, hD, h | .nilF, u, hD, h | .nilI, u, hD, h | .ptr _ _, u, hD, h | .map _, u, hD, h | .chan _, u, hD, h | .junk, u, hD, h => rd0_Cv _ _ _ _ (by simpa only [rdS] using h)
theorem rdSL_Cv {S : Store} {ρ : Nat → Option Nat} : ∀ (l m : List AV), (∀ i, i ∈ topIdsL l → ρ i = none) → rdSL S l = some m → l.length = m.length ∧ ∀ (j : Nat) (v u : AV), l[j]? = some v → m[j]? = some u → Cv S ρ v u
  | [], m, hD, h => by simp only [rdSL, Option.some.injEq] at h; subst h; exact ⟨rfl, fun j v u h => by simp at h⟩
  | v :: l, m, hD, h => by
    simp only [rdSL, Option.bind_eq_some_iff, Option.map_eq_some_iff] at h
    obtain ⟨u, h1, us, h2, rfl⟩ := h
    obtain ⟨q1, q2⟩ := rdSL_Cv l us (fun i hi => hD i (by simp [topIdsL, hi])) h2
    refine ⟨by simp [q1], fun j a b ha hb => ?_⟩
    cases j with
    | zero => simp at ha hb; subst ha; subst hb; exact rdS_Cv _ _ (fun i hi => hD i (by simp [topIdsL, hi])) h1
    | succ j => simp at ha hb; exact q2 j a b ha hb
end

/-- a call's answer reads as what stays; its rows are its own -/
theorem Conv.good {S T : Store} {v u : AV} (hp : S <+: T) (hi : ∀ i, i ∈ topIds v → S.length ≤ i) (h : rdS T v = some u) : Conv S T v S u := by
  obtain ⟨U, rfl⟩ := hp
  refine ⟨fun i => if i < S.length then some i else none, id, fun i h => if_pos h, fun i i' h => ?_, fun i' h => ⟨by simp; omega, if_pos h⟩, fun i' x' h => .inl ⟨(List.getElem?_eq_some_iff.1 h).1, h, ?_⟩, rdS_Cv _ _ (fun i h => ?_) h⟩
  · simp only at h
    split at h
    · cases h; rename_i h; exact ⟨h, rfl⟩
    · cases h
  · rw [List.getElem?_append_left (List.getElem?_eq_some_iff.1 h).1]; exact h
  · have := hi i h; exact if_neg (by omega)

mutual
theorem rd0_rdS (S : Store) : ∀ (v u : AV), rd0 v = some u → rdS S v = some u
  | .agg cs, u, h => by
    simp only [rd0, Option.map_eq_some_iff] at h
    obtain ⟨ds, h, rfl⟩ := h
    simp only [rdS, rd0L_rdSL S _ _ h]; rfl
  | .csl cs n, u, h => by
    simp only [rd0, Option.map_eq_some_iff] at h
    obtain ⟨ds, h, rfl⟩ := h
    simp only [rdS, rd0L_rdSL S _ _ h]; rfl
  | .tup cs, u, h => by
    simp only [rd0, Option.map_eq_some_iff] at h
    obtain ⟨ds, h, rfl⟩ := h
    simp only [rdS, rd0L_rdSL S _ _ h]; rfl
  | .sl _ _ _ _, u, h | .slc _ _ _ _ _, u, h => by simp [rd0] at h
  | .nilS, u, h | .emp, u, h | .nsl, u, h  | .csln _ _, u, h | .cptr _, u, h | .fn _ _, u, h | .int _ _, u, h | .bool _, u, h
  | .str _, u, h | .nilP, u, h | .nilM, u, h | .nilC, u, h | .nilF, u, h | .nilI, u, h | .ptr _ _, u, h | .map _, u, h | .chan _, u, h | .junk, u, h => h
theorem rd0L_rdSL (S : Store) : ∀ (l m : List AV), rd0L l = some m → rdSL S l = some m
  | [], m, h => h
  | v :: l, m, h => by
    simp only [rd0L, Option.bind_eq_some_iff, Option.map_eq_some_iff] at h
    obtain ⟨u, h1, us, h2, rfl⟩ := h
    simp only [rdSL, rd0_rdS S _ _ h1, Option.bind_some, rd0L_rdSL S _ _ h2, Option.map_some]
end
mutual
theorem top_rd0 : ∀ (v u : AV), rd0 v = some u → topIds v = []
  | .agg cs, u, h => by
    simp only [rd0, Option.map_eq_some_iff] at h
    obtain ⟨ds, h, rfl⟩ := h
    simp only [topIds]; exact topL_rd0 _ _ h
  | .csl cs n, u, h => by
    simp only [rd0, Option.map_eq_some_iff] at h
    obtain ⟨ds, h, rfl⟩ := h
    simp only [topIds]; exact topL_rd0 _ _ h
  | .tup cs, u, h => by
    simp only [rd0, Option.map_eq_some_iff] at h
    obtain ⟨ds, h, rfl⟩ := h
    simp only [topIds]; exact topL_rd0 _ _ h
  | .sl _ _ _ _, u, h | .slc _ _ _ _ _, u, h => by simp [rd0] at h
  | .nilS, u, h | .emp, u, h | .nsl, u, h  | .csln _ _, u, h | .cptr _, u, h | .fn _ _, u, h | .int _ _, u, h | .bool _, u, h
  | .str _, u, h | .nilP, u, h | .nilM, u, h | .nilC, u, h | .nilF, u, h | .nilI, u, h | .ptr _ _, u, h | .map _, u, h | .chan _, u, h | .junk, u, h => rfl
theorem topL_rd0 : ∀ (l m : List AV), rd0L l = some m → topIdsL l = []
  | [], m, h => rfl
  | v :: l, m, h => by
    simp only [rd0L, Option.bind_eq_some_iff, Option.map_eq_some_iff] at h
    obtain ⟨u, h1, us, h2, rfl⟩ := h
    simp only [topIdsL, top_rd0 _ _ h1, topL_rd0 _ _ h2, List.append_nil]
end

/-! ### records -/
class Rec (α : Type) where
  sz : Nat
  c : α → List AV
  len : ∀ a, (c a).length = sz
  pos : 0 < sz
  inj : ∀ a b, c a = c b → a = b
  pure : ∀ a, PureL (c a)

/-- a list as cells -/
def cl {α : Type} [Rec α] (l : List α) : List AV := l.flatMap Rec.c
/-- a list as a slice that stays -/
def enc {α : Type} [Rec α] (l : List α) : AV := .csl (cl l) l.length

section
variable {α : Type} [Rec α]
theorem cl_nil : cl ([] : List α) = [] := rfl
theorem cl_cons (a : α) (l : List α) : cl (a :: l) = Rec.c a ++ cl l := rfl
theorem cl_append (l m : List α) : cl (l ++ m) = cl l ++ cl m := List.flatMap_append
theorem cl_one (a : α) : cl [a] = Rec.c a := by simp [cl]
theorem cl_len (l : List α) : (cl l).length = l.length * Rec.sz α := by
  induction l with
  | nil => simp [cl]
  | cons a l ih => rw [cl_cons, List.length_append, ih, Rec.len, List.length_cons, Nat.add_mul]; omega
theorem cl_pure (l : List α) : PureL (cl l) := by
  induction l with
  | nil => exact .nil
  | cons a l ih => rw [cl_cons]; exact (Rec.pure a).append ih
theorem cl_drop (l : List α) (i : Nat) : (cl l).drop (i * Rec.sz α) = cl (l.drop i) := by
  induction l generalizing i with
  | nil => simp [cl]
  | cons a l ih =>
    cases i with
    | zero => simp
    | succ i =>
      rw [cl_cons, List.drop_succ_cons, ← ih i, Nat.add_mul, Nat.one_mul, List.drop_append, Rec.len, List.drop_eq_nil_of_le (by rw [Rec.len]; omega)]
      simp
theorem cl_take (l : List α) (i : Nat) : (cl l).take (i * Rec.sz α) = cl (l.take i) := by
  induction l generalizing i with
  | nil => simp [cl]
  | cons a l ih =>
    cases i with
    | zero => simp [cl]
    | succ i =>
      rw [cl_cons, List.take_succ_cons, cl_cons, ← ih i, Nat.add_mul, Nat.one_mul, List.take_append, Rec.len, List.take_of_length_le (by rw [Rec.len]; omega)]
      simp
theorem cl_at {l : List α} {i : Nat} (h : i < l.length) : (cl l).drop (i * Rec.sz α) = Rec.c l[i] ++ cl (l.drop (i + 1)) := by
  rw [cl_drop, List.drop_eq_getElem_cons h, cl_cons]
theorem cl_inj : ∀ (l m : List α), cl l = cl m → l.length = m.length → l = m
  | [], [], _, _ => rfl
  | a :: l, b :: m, h, hl => by
    rw [cl_cons, cl_cons] at h
    have := List.append_inj h (by rw [Rec.len, Rec.len])
    rw [Rec.inj a b this.1, cl_inj l m this.2 (by simpa using hl)]
theorem enc_inj {l m : List α} : enc l = enc m ↔ l = m := ⟨fun h => by simp only [enc, AV.csl.injEq] at h; exact cl_inj l m h.1 h.2, fun h => by rw [h]⟩
theorem enc_rd0 (l : List α) : rd0 (enc l) = some (enc l) := by simp only [enc, rd0]; rw [show rd0L (cl l) = some (cl l) from cl_pure l]; rfl
theorem enc_rdS (S : Store) (l : List α) : rdS S (enc l) = some (enc l) := rd0_rdS S _ _ (enc_rd0 l)
theorem enc_top (l : List α) : topIds (enc l) = [] := top_rd0 _ _ (enc_rd0 l)
theorem enc_cells (l : List α) : (enc l).cells = [enc l] := rfl
theorem len_enc (l : List α) : lenA false (enc l) = some (.int .i64 l.length) := rfl
theorem enc_nil : enc ([] : List α) = .csl [] 0 := rfl
/-- the place of an element -/
theorem ia_enc {sz : Nat} {l : List α} {i : Nat} (k : IntKind) (h : i < l.length) (hs : sz = Rec.sz α) : iaddrA sz (enc l) (.int k i) = some (.cptr (Rec.c l[i] ++ cl (l.drop (i + 1)))) := by
  subst hs; rw [enc, ia_csl k h, cl_at h]
theorem ld_enc {n : Nat} {S : Store} (a : α) (rest : List AV) (h : n = Rec.sz α) : loadA S true n (.cptr (Rec.c a ++ rest)) = some (.agg (Rec.c a)) := by
  subst h; rw [ld_cn _ _ _ (by rw [List.length_append, Rec.len]; omega), List.take_append_of_le_length (by rw [Rec.len]; omega), List.take_of_length_le (by rw [Rec.len]; omega)]
theorem el_enc {S : Store} (l : List α) {sz : Nat} (h : sz = Rec.sz α) : elems S sz (enc l) = some (cl l, l.length) := by
  subst h; simp only [enc, elems]; rw [if_pos (cl_len l)]
theorem sl_enc {sz : Nat} {l : List α} {i j : Nat} {lo hi : Option AV} (h : sz = Rec.sz α) (h1 : optI 0 lo = some (i : Int)) (h2 : optI l.length hi = some (j : Int)) (hij : i ≤ j) (hj : j ≤ l.length) :
    sliceA sz (enc l) lo hi none = some (enc ((l.drop i).take (j - i))) := by
  subst h
  simp only [enc, sliceA, h1, h2, Option.bind_some, show optI (l.length : Int) none = some (l.length : Int) from rfl, Option.isNone_none, Option.isSome_none, Bool.false_eq_true, false_and, true_or, and_true, if_false]
  rw [if_pos (by omega)]
  congr 1
  simp only [Int.toNat_natCast]
  rw [cl_drop, cl_take]
  congr 1
  simp; omega
end

/-! ### a call's own rows -/
/-- a row of the call's own, from objects S0 on -/
def Own (S0 T : Store) (x : AV) (cs : List AV) (n sz : Nat) : Prop :=
  S0 <+: T ∧ cs.length = n * sz ∧ ((x = .nilS ∧ n = 0) ∨ ∃ id, S0.length ≤ id ∧ x = .sl id 0 n sz ∧ T[id]? = some (.cells cs))
def OwnL {α : Type} [Rec α] (S0 T : Store) (x : AV) (l : List α) : Prop := Own S0 T x (cl l) l.length (Rec.sz α)

theorem prefix_set {S T : Store} (h : S <+: T) {i : Nat} (hi : S.length ≤ i) (o : AObj) : S <+: T.set i o := by
  obtain ⟨U, rfl⟩ := h
  exact ⟨U.set (i - S.length) o, by rw [List.set_append_right _ _ hi]⟩
theorem prefix_app {S T : Store} (h : S <+: T) (l : List AObj) : S <+: T ++ l := h.trans (List.prefix_append T l)
theorem prefix_len {S T : Store} (h : S <+: T) : S.length ≤ T.length := h.length_le
theorem prefix_get {S T : Store} (h : S <+: T) {i : Nat} {o : AObj} (hi : S[i]? = some o) : T[i]? = some o := by
  obtain ⟨U, rfl⟩ := h; exact get_old hi U

theorem Own.nil {S0 T : Store} (h : S0 <+: T) (sz : Nat) : Own S0 T .nilS [] 0 sz := ⟨h, by simp, .inl ⟨rfl, rfl⟩⟩
theorem OwnL.nil {α : Type} [Rec α] {S0 T : Store} (h : S0 <+: T) : OwnL S0 T .nilS ([] : List α) := Own.nil h _
theorem Own.pre {S0 T : Store} {x : AV} {cs : List AV} {n sz : Nat} (h : Own S0 T x cs n sz) : S0 <+: T := h.1
/-- more objects turn nothing -/
theorem Own.more {S0 T : Store} {x : AV} {cs : List AV} {n sz : Nat} (h : Own S0 T x cs n sz) (l : List AObj) : Own S0 (T ++ l) x cs n sz := by
  obtain ⟨h1, h2, h3⟩ := h
  refine ⟨prefix_app h1 l, h2, h3.imp (fun h => h) fun ⟨id, q1, q2, q3⟩ => ⟨id, q1, q2, get_old q3 l⟩⟩
theorem OwnL.more {α : Type} [Rec α] {S0 T : Store} {x : AV} {l : List α} (h : OwnL S0 T x l) (m : List AObj) : OwnL S0 (T ++ m) x l := Own.more h m
theorem Own.len {S0 T : Store} {x : AV} {cs : List AV} {n sz : Nat} (h : Own S0 T x cs n sz) : lenA false x = some (.int .i64 n) := by
  obtain ⟨_, _, ⟨rfl, rfl⟩ | ⟨id, _, rfl, _⟩⟩ := h <;> rfl
theorem OwnL.len {α : Type} [Rec α] {S0 T : Store} {x : AV} {l : List α} (h : OwnL S0 T x l) : lenA false x = some (.int .i64 l.length) := Own.len h

/-- what a row's other rows keep when it grows -/
def Keep (S0 T T' : Store) (x : AV) : Prop := ∀ (i : Nat) (o : AObj), T[i]? = some o → i ∉ topIds x → T'[i]? = some o

theorem appA_eq (S : Store) (sz bytes : Nat) (x y : AV) : appA S sz bytes x y = (elems S sz y).bind fun (p : List AV × Nat) =>
    match x with
    | .nilS => if p.2 = 0 then some (.nilS, S) else
        if p.2 * bytes ≤ 140737488355328 then some (.sl S.length 0 p.2 sz, S ++ [.cells p.1]) else none
    | .emp => if p.2 = 0 then some (.emp, S) else
        if p.2 * bytes ≤ 140737488355328 then some (.sl S.length 0 p.2 sz, S ++ [.cells p.1]) else none
    | .csl cs n => if p.2 = 0 then some (.csl cs n, S) else none
    | .nsl => if p.2 = 0 then some (.nsl, S) else none
    | .sl id off n sz' => match S[id]? with
      | some (.cells cs) =>
        if sz = sz' then
          if off + (n + p.2) * sz ≤ cs.length then
            some (.sl id off (n + p.2) sz, S.set id (.cells (cs.take (off + n * sz) ++ p.1 ++ cs.drop (off + (n + p.2) * sz))))
          else if off + n * sz = cs.length ∧ (n + p.2) * bytes ≤ 140737488355328 then
            some (.sl S.length 0 (n + p.2) sz, (S.set id .dead) ++ [.cells (cs.drop off ++ p.1)])
          else none
        else none
      | _ => none
    | .slc id off n c sz' => match S[id]? with
      | some (.cells cs) =>
        if sz = sz' ∧ off + c * sz ≤ cs.length then
          if n + p.2 ≤ c then
            some (.slc id off (n + p.2) c sz, S.set id (.cells (cs.take (off + n * sz) ++ p.1 ++ cs.drop (off + (n + p.2) * sz))))
          else if (n + p.2) * bytes ≤ 140737488355328 then
            some (.sl S.length 0 (n + p.2) sz, S ++ [.cells ((cs.drop off).take (n * sz) ++ p.1)])
          else none
        else none
      | _ => none
    | _ => none := rfl

/-- an append to an own row -/
theorem Own.app {S0 T : Store} {x y : AV} {cs ys : List AV} {n m sz bytes : Nat} (h : Own S0 T x cs n sz) (hs : 0 < sz) (hy : elems T sz y = some (ys, m)) (hyl : ys.length = m * sz) (hb : (n + m) * bytes ≤ 140737488355328) :
    ∃ x' T', appA T sz bytes x y = some (x', T') ∧ Own S0 T' x' (cs ++ ys) (n + m) sz ∧ Keep S0 T T' x ∧ (∀ i, i ∈ topIds x' → i ∈ topIds x ∨ T.length ≤ i) := by
  obtain ⟨h1, h2, h3⟩ := h
  rw [appA_eq, hy, Option.bind_some]
  have hp := prefix_len h1
  rcases h3 with ⟨rfl, rfl⟩ | ⟨id, q1, rfl, q3⟩
  · have hcs : cs = [] := List.eq_nil_of_length_eq_zero (by rw [h2]; simp)
    subst hcs
    by_cases hm : m = 0
    · subst hm
      have : ys = [] := List.eq_nil_of_length_eq_zero (by rw [hyl]; simp)
      subst this
      exact ⟨.nilS, T, by simp, ⟨h1, by simp, .inl ⟨rfl, rfl⟩⟩, fun i o ho _ => ho, fun i hi => .inl hi⟩
    · refine ⟨.sl T.length 0 m sz, T ++ [.cells ys], by simp only [hm, if_false]; rw [if_pos (by simpa using hb)], ⟨prefix_app h1 _, by simp [hyl], .inr ⟨T.length, hp, by simp, by simp⟩⟩, fun i o ho _ => get_old ho _, fun i hi => ?_⟩
      simp [topIds] at hi; omega
  · have e1 : (n + m) * sz = n * sz + m * sz := Nat.add_mul ..
    simp only [q3, if_true, Nat.zero_add]
    by_cases hm : (n + m) * sz ≤ cs.length
    · have hm0 : m = 0 := by
        have : m * sz = 0 := by omega
        rcases Nat.mul_eq_zero.1 this with h | h <;> omega
      subst hm0
      have : ys = [] := List.eq_nil_of_length_eq_zero (by rw [hyl]; simp)
      subst this
      rw [if_pos hm]
      have hlen : id < T.length := (List.getElem?_eq_some_iff.1 q3).1
      refine ⟨_, _, rfl, ⟨prefix_set h1 q1 _, by simp [h2], .inr ⟨id, q1, by simp, ?_⟩⟩, fun i o ho hi => ?_, fun i hi => .inl (by simpa [topIds] using hi)⟩
      · rw [List.getElem?_set_self hlen]; simp
      · rw [List.getElem?_set_ne (fun e => hi (by simp [topIds, e]))]; exact ho
    · rw [if_neg hm, if_pos ⟨by omega, hb⟩]
      refine ⟨_, _, rfl, ⟨prefix_app (prefix_set h1 q1 _) _, by simp [h2, hyl, e1], .inr ⟨T.length, hp, rfl, ?_⟩⟩, fun i o ho hi => ?_, fun i hi => .inr ?_⟩
      · have : (T.set id .dead).length = T.length := by simp
        rw [← this, List.getElem?_concat_length]; simp
      · apply get_old; rw [List.getElem?_set_ne (fun e => hi (by simp [topIds, e]))]; exact ho
      · simp [topIds] at hi; omega

section
variable {α : Type} [Rec α]
theorem OwnL.app {S0 T : Store} {x y : AV} {l m : List α} {sz bytes : Nat} (h : OwnL S0 T x l) (hs : sz = Rec.sz α) (hy : elems T sz y = some (cl m, m.length)) (hb : (l.length + m.length) * bytes ≤ 140737488355328)
    {K : AV → Store → Prop} {d : Dm K} (k : ∀ x' T', OwnL S0 T' x' (l ++ m) → Keep S0 T T' x → (∀ i, i ∈ topIds x' → i ∈ topIds x ∨ T.length ≤ i) → K x' T') : thn (appA T sz bytes x y) K d := by
  subst hs
  obtain ⟨x', T', h1, h2, h3, h4⟩ := Own.app h Rec.pos hy (cl_len m) hb
  rw [h1, thn_some]
  refine k x' T' ?_ h3 h4
  simpa [OwnL, cl_append] using h2
/-- an own row reads as its list -/
theorem OwnL.rd {S0 T : Store} {x : AV} {l : List α} (h : OwnL S0 T x l) : rdS T x = some (enc l) := by
  obtain ⟨h1, h2, ⟨rfl, h3⟩ | ⟨id, q1, rfl, q3⟩⟩ := h
  · have : l = [] := List.eq_nil_of_length_eq_zero h3
    subst this; rfl
  · simp only [rdS, q3, Nat.zero_add]
    rw [if_pos (by rw [h2]; exact Nat.le_refl _), List.drop_zero, List.take_of_length_le (by rw [h2]; exact Nat.le_refl _), show rd0L (cl l) = some (cl l) from cl_pure l]; rfl
theorem OwnL.ids {S0 T : Store} {x : AV} {l : List α} (h : OwnL S0 T x l) : ∀ i, i ∈ topIds x → S0.length ≤ i := by
  obtain ⟨h1, h2, ⟨rfl, h3⟩ | ⟨id, q1, rfl, q3⟩⟩ := h
  · intro i hi; simp [topIds] at hi
  · intro i hi; simp [topIds] at hi; omega
theorem OwnL.el {S0 T : Store} {x : AV} {l : List α} (h : OwnL S0 T x l) {sz : Nat} (hs : sz = Rec.sz α) : elems T sz x = some (cl l, l.length) := by
  subst hs
  obtain ⟨h1, h2, ⟨rfl, h3⟩ | ⟨id, q1, rfl, q3⟩⟩ := h
  · have : l = [] := List.eq_nil_of_length_eq_zero h3
    subst this; rfl
  · simp only [elems, q3, Nat.zero_add, true_and]
    rw [if_pos (by rw [h2]; exact Nat.le_refl _), List.drop_zero, List.take_of_length_le (by rw [h2]; exact Nat.le_refl _)]
theorem OwnL.keep {S0 T T' : Store} {x z : AV} {l : List α} (h : OwnL S0 T x l) (hp : S0 <+: T') (hk : Keep S0 T T' z) (hd : ∀ i, i ∈ topIds x → i ∉ topIds z) : OwnL S0 T' x l := by
  obtain ⟨h1, h2, h3⟩ := h
  refine ⟨hp, h2, h3.imp (fun h => h) ?_⟩
  rintro ⟨id, q1, rfl, q3⟩
  exact ⟨id, q1, rfl, hk id _ q3 (hd id (by simp [topIds]))⟩
/-- an own row as an answer -/
theorem OwnL.conv {S0 T : Store} {x : AV} {l : List α} (h : OwnL S0 T x l) : Conv S0 T x S0 (enc l) := Conv.good h.1 h.ids h.rd
end

/-! ### loops -/
theorem w_blkseq {E : Env} {g : Frame} {S : Store} {Q : AExit → Frame → Store → Prop} {q : Dm Q} (i : Nat) (a b : ACode) : wpC E (.block i (.seq a b)) g S Q q = wpC E (.seq a b) g S (blkK i Q) .mk := w_block i _
theorem w_blkreg {E : Env} {g : Frame} {S : Store} {Q : AExit → Frame → Store → Prop} {q : Dm Q} (i : Nat) (a : List AIns) (b : List (Nat × Nat)) : wpC E (.block i (.region a b)) g S Q q = wpC E (.region a b) g S (blkK i Q) .mk := w_block i _
theorem w_blkcond {E : Env} {g : Frame} {S : Store} {Q : AExit → Frame → Store → Prop} {q : Dm Q} (i : Nat) (c : AX) (a b : ACode) : wpC E (.block i (.cond c a b)) g S Q q = wpC E (.cond c a b) g S (blkK i Q) .mk := w_block i _
theorem w_blkblk {E : Env} {g : Frame} {S : Store} {Q : AExit → Frame → Store → Prop} {q : Dm Q} (i j : Nat) (c : ACode) : wpC E (.block i (.block j c)) g S Q q = wpC E (.block j c) g S (blkK i Q) .mk := w_block i _
theorem w_blkskip {E : Env} {g : Frame} {S : Store} {Q : AExit → Frame → Store → Prop} {q : Dm Q} (i : Nat) : wpC E (.block i .skip) g S Q q = blkK i Q .normal g S := by rw [w_block, w_skip]
theorem w_blkret {E : Env} {g : Frame} {S : Store} {Q : AExit → Frame → Store → Prop} {q : Dm Q} (i : Nat) : wpC E (.block i .ret) g S Q q = blkK i Q .ret g S := by rw [w_block, w_ret]
theorem w_blkexit {E : Env} {g : Frame} {S : Store} {Q : AExit → Frame → Store → Prop} {q : Dm Q} (i j : Nat) : wpC E (.block i (.exit j)) g S Q q = blkK i Q (.exit j) g S := by rw [w_block, w_exit]

/-- a loop in its block, by an invariant that tells what is left -/
theorem Ex.while {E : Env} {b : Nat} {c : ACode} {g : Frame} {S : Store} {Q : AExit → Frame → Store → Prop} {q : Dm Q} (I : Nat → Frame → Store → Prop) (k : Nat) (h0 : I k g S)
    (step : ∀ k g S, I k g S → wpC E c g S (fun ex g' S' => match ex with | .normal => ∃ k', k' < k ∧ I k' g' S' | ex => blkK b Q ex g' S') .mk) : wpC E (.block b (.loop c)) g S Q q := by
  rw [w_block, w_loop]
  exact Ex.loop I (fun k g S h => step k g S h) k g S h0

/-- the end of a round -/
def rndK (b0 b1 vi vn n i : Nat) (I : Nat → Frame → Store → Prop) (Q : AExit → Frame → Store → Prop) : AExit → Frame → Store → Prop := fun ex g T => match ex with
  | .normal => g vi = .int .i64 i ∧ g vn = .int .i64 n ∧ I (i + 1) (upd g vi (.int .i64 ((i + 1 : Nat) : Int))) T
  | .exit b => if b = b1 then g vi = .int .i64 i ∧ g vn = .int .i64 n ∧ I (i + 1) (upd g vi (.int .i64 ((i + 1 : Nat) : Int))) T else if b = b0 then Q .normal g T else Q (.exit b) g T
  | .ret => Q .ret g T
section
variable {b0 b1 vi vn n i : Nat} {I : Nat → Frame → Store → Prop} {Q : AExit → Frame → Store → Prop} {g : Frame} {T : Store}
theorem rnd_n : rndK b0 b1 vi vn n i I Q .normal g T = (g vi = .int .i64 i ∧ g vn = .int .i64 n ∧ I (i + 1) (upd g vi (.int .i64 ((i + 1 : Nat) : Int))) T) := propext ⟨fun h => h, fun h => h⟩
theorem rnd_r : rndK b0 b1 vi vn n i I Q .ret g T = Q .ret g T := propext ⟨fun h => h, fun h => h⟩
theorem rnd_e (b : Nat) : rndK b0 b1 vi vn n i I Q (.exit b) g T = if b = b1 then (g vi = .int .i64 i ∧ g vn = .int .i64 n ∧ I (i + 1) (upd g vi (.int .i64 ((i + 1 : Nat) : Int))) T) else if b = b0 then Q .normal g T else Q (.exit b) g T := propext ⟨fun h => h, fun h => h⟩
end

/-- the code of 'for i := range n' -/
@[reducible] def rngC (b0 b1 vi vc vn : Nat) (body : ACode) : ACode :=
  .block b0 (.loop (.seq (.region [⟨some vc, .bin .lss (.v vi) (.v vn), none⟩] []) (.seq (.cond (.v vc) .skip (.exit b0)) (.seq (.block b1 body) (.region [⟨none, .bin .add (.v vi) (.k (.int .i64 1)), none⟩, ⟨some vi, .mv (.l 0), none⟩] [])))))

theorem Ex.range {E : Env} {b0 b1 vi vc vn : Nat} {body : ACode} {g : Frame} {S : Store} {Q : AExit → Frame → Store → Prop} {q : Dm Q} {n : Nat} (I : Nat → Frame → Store → Prop)
    (hv : vi ≠ vc ∧ vn ≠ vc ∧ vi ≠ vn ∧ b0 ≠ b1) (hn : n ≤ 9223372036854775807) (hi : g vi = .int .i64 0) (hnn : g vn = .int .i64 n) (h0 : I 0 g S)
    (step : ∀ i g T, i < n → g vi = .int .i64 (i : Int) → g vn = .int .i64 n → I i g T → wpC E body (upd g vc (.bool true)) T (rndK b0 b1 vi vn n i I Q) .mk)
    (done : ∀ g T, g vi = .int .i64 n → I n g T → Q .normal (upd g vc (.bool false)) T) : wpC E (rngC b0 b1 vi vc vn body) g S Q q := by
  obtain ⟨h1, h2, h3, h4⟩ := hv
  refine Ex.while (fun k g T => ∃ i : Nat, k = n - i ∧ i ≤ n ∧ g vi = .int .i64 i ∧ g vn = .int .i64 n ∧ I i g T) n ⟨0, rfl, by omega, hi, hnn, h0⟩ ?_
  rintro k g T ⟨i, rfl, hin, hgi, hgn, hI⟩
  rw [w_seq, w_reg, i_sn, o_bin]
  simp only [ev_v, hgi, hgn, b_lss, thnV_some, insKt_eq, i_nil, seqK_n]
  by_cases hlt : i < n
  · have e : decide ((i : Int) < (n : Int)) = true := by simp [hlt]
    rw [e, w_seq, w_cond]
    simp only [ev_v, upd_apply, if_true, ifV_bool', cnd_true', w_skip, seqK_n]
    rw [w_seq, w_block]
    have hs := step i g T hlt hgi hgn hI
    have key : ∀ g' T', (g' vi = .int .i64 i ∧ g' vn = .int .i64 n ∧ I (i + 1) (upd g' vi (.int .i64 ((i + 1 : Nat) : Int))) T') →
        wpC E (.region [⟨none, .bin .add (.v vi) (.k (.int .i64 1)), none⟩, ⟨some vi, .mv (.l 0), none⟩] []) g' T' (fun ex g'' S' => match ex with | .normal => ∃ k', k' < n - i ∧ ∃ j : Nat, k' = n - j ∧ j ≤ n ∧ g'' vi = .int .i64 j ∧ g'' vn = .int .i64 n ∧ I j g'' S' | ex => blkK b0 Q ex g'' S') .mk := fun g' T' ⟨a1, a2, a3⟩ => by
      rw [w_reg, i_nn, o_bin]
      simp only [ev_v, ev_k, a1, b_add, thnV_some, insK_eq, List.nil_append]
      rw [i_sn, o_mv]
      simp only [ev_l, g0, insKt_eq, i_nil]
      rw [wrap64 (by omega) (by omega)]
      have e1 : ((i : Int) + 1) = ((i + 1 : Nat) : Int) := by omega
      rw [e1]
      exact ⟨_, (by omega : n - (i + 1) < n - i), i + 1, rfl, by omega, by simp [upd_apply], by simp [upd_apply, Ne.symm h3, a2], a3⟩
    have mono : ∀ {c : ACode} {g : Frame} {S : Store} {Q1 Q2 : AExit → Frame → Store → Prop}, wpC E c g S Q1 .mk → (∀ ex g S, Q1 ex g S → Q2 ex g S) → wpC E c g S Q2 .mk := fun {c} {g} {S} {Q1} {Q2} h hq => by
      exact wpC_mono h hq
    refine mono hs fun ex g' T' hk => ?_
    cases ex with
    | normal => rw [blkK_n, seqK_n]; exact key g' T' hk
    | exit b =>
      rw [rnd_e] at hk
      rw [blkK_e]
      by_cases hb : b = b1
      · rw [if_pos hb] at hk ⊢; rw [seqK_n]; exact key g' T' hk
      · rw [if_neg hb] at hk ⊢; rw [seqK_e]
        simp only [blkK_e]
        by_cases hb0 : b = b0
        · rw [if_pos hb0] at hk ⊢; exact hk
        · rw [if_neg hb0] at hk ⊢; exact hk
    | ret => rw [blkK_r, seqK_r]; exact hk
  · have e : decide ((i : Int) < (n : Int)) = false := by simp; omega
    rw [e, w_seq, w_cond]
    simp only [ev_v, upd_apply, if_true, ifV_bool', cnd_false', w_exit, seqK_e]
    have : i = n := by omega
    subst this
    rw [blkK_e, if_pos rfl]
    exact done g T hgi hI

end Go.Proofs.YtaajlbbooneiiaaDoor.Avm
set_option linter.unusedVariables false
set_option linter.unusedSimpArgs false
set_option linter.unusedSectionVars false
namespace Go.Proofs.YtaajlbbooneiiaaDoor.Avm

open Classical in
/-- an answer, where a condition holds -/
noncomputable def gd {α : Type} (k : α → Prop) (r : α → AV) (a : α) : Option AV := if k a then some (r a) else none
theorem gd_inv {α : Type} {k : α → Prop} {r : α → AV} {a : α} {v : AV} (h : gd k r a = some v) : k a ∧ v = r a := by
  unfold gd at h
  split at h
  · rename_i hk; cases h; exact ⟨hk, rfl⟩
  · cases h
theorem gd_eq {α : Type} {k : α → Prop} {r : α → AV} {a : α} (h : k a) : gd k r a = some (r a) := if_pos h

section
variable {α : Type} {E : Env} {f : Nat} {fn : AFunc} {enc : α → List AV} {k : α → Prop} {r : α → AV}
theorem OkS.code (hp : E.prim f = none) (hf : E.F f = some fn) (hl : ∀ a, (enc a).length = fn.np) (h : ∀ a, k a → wpC E fn.body (initA (enc a)) [] (fin fn.res fun v _ => v = r a) .mk) : OkS E f enc (gd k r) := fun a v hv => by
  obtain ⟨hk, rfl⟩ := gd_inv hv
  obtain ⟨v, S', rfl, hi⟩ := Sp.intro hp hf (hl a) (h a hk)
  exact ⟨S', hi⟩
theorem OkG.code (hp : E.prim f = none) (hf : E.F f = some fn) (hl : ∀ a, (enc a).length = fn.np) (h : ∀ a S, k a → wpC E fn.body (initA (enc a)) S (fin fn.res fun v T => Conv S T v S (r a)) .mk) : OkG E f enc (gd k r) := fun a v S hv => by
  obtain ⟨hk, rfl⟩ := gd_inv hv
  obtain ⟨v, S', hc, hi⟩ := Sp.intro hp hf (hl a) (h a S hk)
  exact ⟨v, S', hi, hc⟩
variable {S : Store} {args : List AV} {a : α} {K : AV → Store → Prop} {d : Dm K}
theorem Is.prim {p : List AV → Store → Option (AV × Store)} {v : AV} {S' : Store} (h : E.prim f = some fun _ => p) (hp : p args S = some (v, S')) : Is E f args S v S' :=
  ⟨1, fun n hn => by cases n with | zero => omega | succ n => simp only [run, h]; exact hp⟩
theorem callS (h : E.prim f = some fun _ => primS enc (gd k r)) (hi : Inj enc) (hr : rdSL S args = some (enc a)) (hk : k a) : SpD E f args S K d = K (r a) S :=
  Is.spD (Is.prim h (primS_eq hi hr (gd_eq hk))) K d
theorem callG (h : E.prim f = some fun _ => primG enc (gd k r)) (hi : Inj enc) (hr : rdSL S args = some (enc a)) (hk : k a) : SpD E f args S K d = K (r a) (killL (topIdsL args) S) :=
  Is.spD (Is.prim h (primG_eq hi hr (gd_eq hk))) K d
end

/-- scalars -/
theorem Scal.int (k : IntKind) (n : Int) : Scal (.int k n) := fun w0 w1 φ φ' cv h => by cases h; exact .int _ _
theorem Scal.bool (b : Bool) : Scal (.bool b) := fun w0 w1 φ φ' cv h => by cases h; exact .bool _
theorem Scal.str (s : List UInt8) : Scal (.str s) := fun w0 w1 φ φ' cv h => by cases h; exact .str _
theorem Scal.tup2 {a b : AV} (ha : Scal a) (hb : Scal b) : Scal (.tup [a, b]) := fun w0 w1 φ φ' cv h => by
  obtain ⟨cvs, rfl, k⟩ := h.tup_inv
  obtain ⟨c1, l1, rfl, k1, k2⟩ := k.cons_inv
  obtain ⟨c2, l2, rfl, k3, k4⟩ := k2.cons_inv
  have : l2 = [] := List.eq_nil_of_length_eq_zero k4.1.symm
  subst this
  have := Vs.cons (ha _ w1 _ φ' _ k1) (Vs.cons (hb _ w1 _ φ' _ k3) .nil)
  exact .tup this.1 this.2
theorem Scal.gd {α : Type} {k : α → Prop} {r : α → AV} (h : ∀ a, Scal (r a)) : ∀ a v, gd k r a = some v → Scal v := fun a v hv => by obtain ⟨_, rfl⟩ := gd_inv hv; exact h a

/-! reading -/
theorem rdS_int (S : Store) (k : IntKind) (n : Int) : rdS S (.int k n) = some (.int k n) := rfl
theorem rdS_bool (S : Store) (b : Bool) : rdS S (.bool b) = some (.bool b) := rfl
theorem rdS_str (S : Store) (s : List UInt8) : rdS S (.str s) = some (.str s) := rfl
theorem rdS_nilS (S : Store) : rdS S .nilS = some (.csl [] 0) := rfl
theorem rdS_agg (S : Store) (cs : List AV) : rdS S (.agg cs) = (rdSL S cs).map .agg := rfl
theorem rdS_tup (S : Store) (cs : List AV) : rdS S (.tup cs) = (rdSL S cs).map .tup := rfl
theorem rdS_fn0 (S : Store) (f : Nat) : rdS S (.fn f []) = some (.fn f []) := rfl
theorem rdS_csl0 (S : Store) : rdS S (.csl [] 0) = some (.csl [] 0) := rfl
theorem rdSL_nil (S : Store) : rdSL S [] = some [] := rfl
theorem rdSL_cons (S : Store) (v : AV) (l : List AV) : rdSL S (v :: l) = (rdS S v).bind fun u => (rdSL S l).map (u :: ·) := rfl
theorem rdSL_pure {S : Store} {l : List AV} (h : PureL l) : rdSL S l = some l := rd0L_rdSL S l l h
theorem rdSL_rec {α : Type} [Rec α] (S : Store) (a : α) : rdSL S (Rec.c a) = some (Rec.c a) := rdSL_pure (Rec.pure a)
theorem rdS_rec {α : Type} [Rec α] (S : Store) (a : α) : rdS S (.agg (Rec.c a)) = some (.agg (Rec.c a)) := by rw [rdS_agg, rdSL_rec]; rfl
theorem topL_pure {l : List AV} (h : PureL l) : topIdsL l = [] := topL_rd0 l l h
theorem top_int (k : IntKind) (n : Int) : topIds (.int k n) = [] := rfl
theorem top_bool (b : Bool) : topIds (.bool b) = [] := rfl
theorem top_str (s : List UInt8) : topIds (.str s) = [] := rfl
theorem top_nilS : topIds .nilS = [] := rfl
theorem top_csl : topIds (.csl [] 0) = [] := rfl
theorem top_agg (cs : List AV) : topIds (.agg cs) = topIdsL cs := rfl
theorem top_tup (cs : List AV) : topIds (.tup cs) = topIdsL cs := rfl
theorem top_rec {α : Type} [Rec α] (a : α) : topIdsL (Rec.c a) = [] := topL_pure (Rec.pure a)
theorem top_fn (f : Nat) (cs : List AV) : topIds (.fn f cs) = [] := rfl
theorem top_sl (i o n z : Nat) : topIds (.sl i o n z) = [i] := rfl
theorem topL_nil : topIdsL [] = [] := rfl
theorem topL_cons (v : AV) (l : List AV) : topIdsL (v :: l) = topIds v ++ topIdsL l := rfl

theorem wrapS {i : Nat} (h : i < 9223372036854775807) : IntKind.i64.wrap ((i : Int) + 1) = ((i + 1 : Nat) : Int) := by
  rw [wrap64 (by omega) (by omega)]; omega

attribute [go_sem] thnV_some thn_some' w_skip w_reg w_regF w_seq w_blkseq w_blkreg w_blkcond w_blkblk w_blkskip w_blkret w_blkexit seqK_n seqK_r seqK_e blkK_n blkK_r blkK_e w_cond w_exit w_ret insK_eq insKt_eq i_nil i_nn i_sn i_ng i_sg
  o_mv o_call o_callv o_bin o_una o_new o_load o_fn o_map o_pick o_len o_sidx o_box o_build o_lit o_litf o_litn o_store o_nilck o_eqb o_eqn o_eqs o_i2i o_same o_s2b o_s2bf o_mark o_b2s o_mksl o_faddr o_field o_iaddr o_aaddr o_look o_mapu o_ext o_mlen o_append o_appz o_clear o_mx o_slice o_slicex o_sslice
  pick_true pick_false cnd_true' cnd_false' byV_bool' byV_tup' ifV_bool' callV_fn' thnR_some' fin_ret fin_norm evs_nil evs_cons ev_l ev_v ev_k upd_apply init_at g0 gS List.nil_append List.cons_append List.length_cons List.length_nil
  b_add b_sub b_mul b_eql b_neq b_lss b_leq b_gtr b_geq s_eql s_neq s_lss s_gtr s_leq s_geq una_not una_neg Option.map_some Option.map_none Option.bind_some Bool.true_eq_false Bool.false_eq_true beq_self_eq_true Bool.not_true Bool.not_false if_true if_false ite_true ite_false
  Nat.reduceEqDiff reduceCtorEq res_nil res_tmp one_one one_two one_none Nat.reduceAdd bne_self_eq_false decide_true decide_false beq_iff_eq Int.natCast_nonneg Int.toNat_natCast lenA_str lenA_nilS lenA_sl lenA_slc lenA_csl len_enc
  c_str c_int c_bool c_agg c_nilS c_nilP c_csl c_sl c_slc c_ptr c_map c_nilM c_fn enc_cells boxA_eq litA_eq litfA_eq litnA_eq markA_eq fillA_nil fillA_cons nilck_ptr nilck_cptr nilck_fn eqb_eq eqb_ne i2i_int same_str faddr_ptr faddr_cptr fieldA_agg fieldA_one ext_tup
  ld_c1 ld_cn get_new get_new0 set_new set_new0 loadA_eq1 loadA_eqn ldO_1 ldO_n storeA_eq stO_c mx_int mx_nil mxs_cons List.getElem?_cons_zero List.getElem?_cons_succ List.drop_succ_cons List.drop_zero List.take_succ_cons List.take_zero List.set_cons_zero List.set_cons_succ List.append_assoc List.append_nil List.length_append
  Int.reduceLE Int.reduceLT Int.reduceNeg Int.reduceEq Int.reduceGT Int.reduceGE Int.reduceAdd Int.reduceSub Int.reduceMul
  eq_self rnd_n rnd_r rnd_e beq_true beq_false Bool.not_not List.drop_nil List.take_nil Nat.zero_add Nat.add_zero true_and and_true Nat.reduceMul Nat.reduceLeDiff List.getElem?_nil List.getElem_cons_zero List.getElem_cons_succ ne_eq not_false_eq_true List.length_set

end Go.Proofs.YtaajlbbooneiiaaDoor.Avm
set_option linter.unusedVariables false
set_option linter.unusedSimpArgs false
set_option linter.unusedSectionVars false
namespace Go.Proofs.YtaajlbbooneiiaaDoor.Avm

abbrev Trc := List (Frame × Store)
def wpT (E : Env) : List AIns → Frame → Store → List AV → Trc → (Q : Frame → Store → List AV → Trc → Prop) → Dm Q → Prop
  | [], g, S, L, R, Q, _ => Q g S L (R ++ [(g, S)])
  | i :: rest, g, S, L, R, Q, d => wpG i.guard L (wpO E i.op g S L (fun v S' => wpT E rest (setD g i.dst v) S' (L ++ [v]) (R ++ [(g, S)]) Q d) .mk) (wpT E rest (setD g i.dst .undef) S (L ++ [.undef]) (R ++ [(g, S)]) Q d) .mk .mk

/-- may a load come up on the other side of an event? -/
def flOne (ins : List AIns) (L : List AV) (R : Trc) (i j : Nat) : Prop :=
  match ins[i]?, R[i]?, R[if i < j then j + 1 else j]? with
  | some o, some (gi, _), some (_, Sj) => wantA o (L.take i) = some false ∨ ∃ T, aop0 Sj (ev gi (L.take i)) o.op = some (L.getD i .undef, T)
  | _, _, _ => False
def flAll (ins : List AIns) (L : List AV) (R : Trc) : List (Nat × Nat) → Prop
  | [] => True
  | (i, j) :: rest => flOne ins L R i j ∧ flAll ins L R rest

theorem wpT_spec {E : Env} : ∀ {ins : List AIns} {g : Frame} {S : Store} {L : List AV} {R : Trc} {Q : Frame → Store → List AV → Trc → Prop} {d : Dm Q}, wpT E ins g S L R Q d →
    ∃ g' S' L' R', Q g' S' L' R' ∧ (∃ M, L' = L ++ M ∧ M.length = ins.length) ∧ (∃ M, R' = R ++ M ∧ M.length = ins.length + 1) ∧ ∃ N, ∀ n, N ≤ n → ains (run E n) g S L ins = some (g', S', L') ∧
      ∀ k, k ≤ ins.length → ∃ gk Sk, ains (run E n) g S L (ins.take k) = some (gk, Sk, L'.take (L.length + k)) ∧ R'[R.length + k]? = some (gk, Sk)
  | [], g, S, L, R, Q, d, h => ⟨g, S, L, R ++ [(g, S)], h, ⟨[], by simp⟩, ⟨_, rfl, by simp⟩, 0, fun n _ => ⟨rfl, fun k hk => by
      simp at hk; subst hk; exact ⟨g, S, by simp [ains], by simp⟩⟩⟩
  | i :: ins, g, S, L, R, Q, d, h => by
    simp only [wpT, wpG] at h
    have fin : ∀ (v : AV) (S1 : Store), wpT E ins (setD g i.dst v) S1 (L ++ [v]) (R ++ [(g, S)]) Q d → (∃ N, ∀ n, N ≤ n → ∀ rest, ains (run E n) g S L (i :: rest) = ains (run E n) (setD g i.dst v) S1 (L ++ [v]) rest) →
        ∃ g' S' L' R', Q g' S' L' R' ∧ (∃ M, L' = L ++ M ∧ M.length = (i :: ins).length) ∧ (∃ M, R' = R ++ M ∧ M.length = (i :: ins).length + 1) ∧ ∃ N, ∀ n, N ≤ n → ains (run E n) g S L (i :: ins) = some (g', S', L') ∧
          ∀ k, k ≤ (i :: ins).length → ∃ gk Sk, ains (run E n) g S L ((i :: ins).take k) = some (gk, Sk, L'.take (L.length + k)) ∧ R'[R.length + k]? = some (gk, Sk) := fun v S1 hw ⟨N, hN⟩ => by
      obtain ⟨g', S', L', R', q, ⟨M, hM, hMl⟩, ⟨M2, hR, hRl⟩, N2, hN2⟩ := wpT_spec hw
      refine ⟨g', S', L', R', q, ⟨v :: M, by rw [hM]; simp, by simp [hMl]⟩, ⟨(g, S) :: M2, by rw [hR]; simp, by simp [hRl]⟩, max N N2, fun n hn => ⟨by rw [hN n (by omega)]; exact (hN2 n (by omega)).1, fun k hk => ?_⟩⟩
      cases k with
      | zero => exact ⟨g, S, by rw [hM]; simp [ains], by rw [hR]; simp⟩
      | succ k =>
        obtain ⟨gk, Sk, h1, h2⟩ := (hN2 n (by omega)).2 k (by simpa using hk)
        refine ⟨gk, Sk, ?_, ?_⟩
        · rw [List.take_succ_cons, hN n (by omega), h1]
          simp only [List.length_append, List.length_singleton]
          rw [show L.length + 1 + k = L.length + (k + 1) by omega]
        · simp only [List.length_append, List.length_singleton] at h2
          rw [show R.length + (k + 1) = R.length + 1 + k by omega]; exact h2
    have go : ∀ rest n v S1, aop (run E n) S (ev g L) i.op = some (v, S1) → ((aop (run E n) S (ev g L) i.op).bind fun (p : AV × Store) => ains (run E n) (setD g i.dst p.1) p.2 (L ++ [p.1]) rest) = ains (run E n) (setD g i.dst v) S1 (L ++ [v]) rest := fun rest n v S1 h => by rw [h]; rfl
    split at h
    · rename_i hg
      obtain ⟨v, S1, k, N, hN⟩ := wpO_spec h
      exact fin v S1 k ⟨N, fun n hn rest => by simp only [ains, hg]; exact go rest n v S1 (hN n hn)⟩
    · rename_i j b hg
      unfold byV at h
      split at h
      · rename_i t ht
        unfold cnd at h
        split at h
        · rename_i htb
          have htb : t = b := by simpa using htb
          obtain ⟨v, S1, k, N, hN⟩ := wpO_spec h
          exact fin v S1 k ⟨N, fun n hn rest => by simp only [ains, hg, ht, htb, if_true]; exact go rest n v S1 (hN n hn)⟩
        · rename_i htb
          have htb : ¬ t = b := by simpa using htb
          exact fin _ _ h ⟨0, fun n hn rest => by simp only [ains, hg, ht, if_neg htb]; rfl⟩
      · rename_i vs ht
        exact fin _ _ h ⟨0, fun n hn rest => by simp only [ains, hg, ht]; rfl⟩
      · exact h.elim

theorem isRead_aop0 {cf : CallF} {S : Store} {e : AX → AV} {op : AOp} {r : AV × Store} (h : aop0 S e op = some r) : aop cf S e op = some r := by
  unfold aop0 at h
  cases op <;> first | exact h | (simp only [aop] at h; first | cases h | (split at h <;> cases h))

theorem flAll_floats {cf : CallF} {g : Frame} {S : Store} {ins : List AIns} {L : List AV} {R : Trc} (hL : L.length = ins.length) (hR : R.length = ins.length + 1)
    (hk : ∀ k, k ≤ ins.length → ∃ gk Sk, ains cf g S [] (ins.take k) = some (gk, Sk, L.take k) ∧ R[k]? = some (gk, Sk)) : ∀ {fl : List (Nat × Nat)}, flAll ins L R fl → floats cf g S ins fl = true
  | [], _ => rfl
  | (i, j) :: fl, h => by
    obtain ⟨h1, h2⟩ := h
    simp only [floats, Bool.and_eq_true]
    refine ⟨?_, flAll_floats hL hR hk h2⟩
    unfold flOne at h1
    split at h1
    · rename_i o gi Si gj Sj ho hi hj
      have hil : i < ins.length := (List.getElem?_eq_some_iff.1 ho).1
      obtain ⟨gi', Si', a1, a2⟩ := hk i (by omega)
      rw [hi] at a2; cases a2
      obtain ⟨gi1, Si1, c1, c2⟩ := hk (i + 1) (by omega)
      have hjl : (if i < j then j + 1 else j) ≤ ins.length := by
        have := (List.getElem?_eq_some_iff.1 hj).1; omega
      obtain ⟨gj', Sj', b1, b2⟩ := hk _ hjl
      rw [hj] at b2; cases b2
      simp only [ho, storeAt, a1, b1, c1]
      rcases h1 with h1 | ⟨T, h1⟩
      · rw [if_pos h1]
      · split
        · rfl
        · rw [isRead_aop0 h1]
          have : (L.take (i + 1)).getD i AV.undef = L.getD i .undef := by
            rw [List.getD_eq_getElem?_getD, List.getD_eq_getElem?_getD, List.getElem?_take, if_pos (by omega)]
          simp only [this, AV.beq_refl]
    · exact h1.elim

theorem ExF.intro {E : Env} {ins : List AIns} {fl : List (Nat × Nat)} {g : Frame} {S : Store} {Q : AExit → Frame → Store → Prop} {q : Dm Q}
    (h : wpT E ins g S [] [] (fun g' S' L R => Q .normal g' S' ∧ flAll ins L R fl) .mk) : ExF E ins fl g S Q q := by
  obtain ⟨g', S', L, R, ⟨h1, h2⟩, ⟨M, hM, hMl⟩, ⟨M2, hR, hRl⟩, N, hN⟩ := wpT_spec h
  refine ⟨.normal, g', S', h1, N, fun n m hn hm => ?_⟩
  obtain ⟨k1, k2⟩ := hN m hm
  simp only [exec, k1]
  rw [flAll_floats (by rw [hM]; simpa using hMl) (by rw [hR]; simpa using hRl) (fun k hk => by simpa using k2 k hk) h2]
  rfl

section
variable {E : Env} {g : Frame} {S : Store} {L : List AV} {R : Trc} {Q : Frame → Store → List AV → Trc → Prop} {r : Dm Q} {rest : List AIns} {op : AOp} {t : Nat}
def insT (E : Env) (rest : List AIns) (g g0 : Frame) (S0 : Store) (L : List AV) (R : Trc) (Q : Frame → Store → List AV → Trc → Prop) (r : Dm Q) : AV → Store → Prop := fun v S' => wpT E rest g S' (L ++ [v]) (R ++ [(g0, S0)]) Q r
def insTt (E : Env) (rest : List AIns) (g : Frame) (t : Nat) (S0 : Store) (L : List AV) (R : Trc) (Q : Frame → Store → List AV → Trc → Prop) (r : Dm Q) : AV → Store → Prop := fun v S' => wpT E rest (upd g t v) S' (L ++ [v]) (R ++ [(g, S0)]) Q r
theorem insT_eq (g0 : Frame) (S0 : Store) (v : AV) : insT E rest g g0 S0 L R Q r v S = wpT E rest g S (L ++ [v]) (R ++ [(g0, S0)]) Q r := propext ⟨fun h => h, fun h => h⟩
theorem insTt_eq (S0 : Store) (v : AV) : insTt E rest g t S0 L R Q r v S = wpT E rest (upd g t v) S (L ++ [v]) (R ++ [(g, S0)]) Q r := propext ⟨fun h => h, fun h => h⟩
theorem t_nil : wpT E [] g S L R Q r = Q g S L (R ++ [(g, S)]) := propext ⟨fun h => h, fun h => h⟩
theorem t_nn : wpT E (⟨none, op, none⟩ :: rest) g S L R Q r = wpO E op g S L (insT E rest g g S L R Q r) .mk := propext ⟨fun h => h, fun h => h⟩
theorem t_sn : wpT E (⟨some t, op, none⟩ :: rest) g S L R Q r = wpO E op g S L (insTt E rest g t S L R Q r) .mk := propext ⟨fun h => h, fun h => h⟩
theorem t_ng (j : Nat) (b : Bool) : wpT E (⟨none, op, some (j, b)⟩ :: rest) g S L R Q r = byV (L.getD j .undef) b (wpO E op g S L (insT E rest g g S L R Q r) .mk) (wpT E rest g S (L ++ [.undef]) (R ++ [(g, S)]) Q r) .mk .mk := propext ⟨fun h => h, fun h => h⟩
theorem t_sg (j : Nat) (b : Bool) : wpT E (⟨some t, op, some (j, b)⟩ :: rest) g S L R Q r = byV (L.getD j .undef) b (wpO E op g S L (insTt E rest g t S L R Q r) .mk) (wpT E rest (upd g t .undef) S (L ++ [.undef]) (R ++ [(g, S)]) Q r) .mk .mk := propext ⟨fun h => h, fun h => h⟩
end
theorem fl_nil (ins : List AIns) (L : List AV) (R : Trc) : flAll ins L R [] = True := rfl
theorem fl_cons (ins : List AIns) (L : List AV) (R : Trc) (i j : Nat) (fl : List (Nat × Nat)) : flAll ins L R ((i, j) :: fl) = (flOne ins L R i j ∧ flAll ins L R fl) := rfl
/-- a load on the other side -/
def flLd (gd : Option (Nat × Bool)) (L : List AV) (S : Store) (b : Bool) (n : Nat) (x v : AV) : Prop := wantA ⟨none, .fail, gd⟩ L = some false ∨ loadA S b n x = some v
theorem fl_ld {ins : List AIns} {L : List AV} {R : Trc} {i j : Nat} {dst : Option Nat} {b : Bool} {n : Nat} {x : AX} {gd : Option (Nat × Bool)} {gi gj : Frame} {Si Sj : Store} {k : Nat}
    (hk : (if i < j then j + 1 else j) = k) (h1 : ins[i]? = some ⟨dst, .load b n x, gd⟩) (h2 : R[i]? = some (gi, Si)) (h3 : R[k]? = some (gj, Sj)) (h : flLd gd (L.take i) Sj b n (ev gi (L.take i) x) (L.getD i .undef)) : flOne ins L R i j := by
  unfold flOne
  rw [hk, h1, h2, h3]
  rcases h with h | h
  · exact .inl h
  · exact .inr ⟨Sj, by simp [aop0, aop, h]⟩
theorem flLd_n (L : List AV) (S : Store) (b : Bool) (n : Nat) (x v : AV) (h : loadA S b n x = some v) : flLd none L S b n x v := .inr h
theorem flLd_g (L : List AV) (S : Store) (b : Bool) (n : Nat) (x v : AV) (gd : Option (Nat × Bool)) (h : loadA S b n x = some v) : flLd gd L S b n x v := .inr h
theorem flLd_s (L : List AV) (S : Store) (b : Bool) (n : Nat) (x v : AV) (j : Nat) (c : Bool) (h : L.getD j .undef = .bool (!c)) : flLd (some (j, c)) L S b n x v := .inl (by simp only [wantA, h]; cases c <;> rfl)
attribute [go_sem] insT_eq insTt_eq t_nil t_nn t_sn t_ng t_sg fl_nil fl_cons

/-- the end of a round -/
def rndJ (b0 b1 vi i : Nat) (I : Nat → Frame → Store → Prop) (Q : AExit → Frame → Store → Prop) : AExit → Frame → Store → Prop := fun ex g T => match ex with
  | .normal => g vi = .int .i64 i ∧ I (i + 1) (upd g vi (.int .i64 ((i + 1 : Nat) : Int))) T
  | .exit b => if b = b1 then g vi = .int .i64 i ∧ I (i + 1) (upd g vi (.int .i64 ((i + 1 : Nat) : Int))) T else if b = b0 then Q .normal g T else Q (.exit b) g T
  | .ret => Q .ret g T
section
variable {b0 b1 vi i : Nat} {I : Nat → Frame → Store → Prop} {Q : AExit → Frame → Store → Prop} {g : Frame} {T : Store}
theorem rnj_n : rndJ b0 b1 vi i I Q .normal g T = (g vi = .int .i64 i ∧ I (i + 1) (upd g vi (.int .i64 ((i + 1 : Nat) : Int))) T) := propext ⟨fun h => h, fun h => h⟩
theorem rnj_r : rndJ b0 b1 vi i I Q .ret g T = Q .ret g T := propext ⟨fun h => h, fun h => h⟩
theorem rnj_e (b : Nat) : rndJ b0 b1 vi i I Q (.exit b) g T = if b = b1 then (g vi = .int .i64 i ∧ I (i + 1) (upd g vi (.int .i64 ((i + 1 : Nat) : Int))) T) else if b = b0 then Q .normal g T else Q (.exit b) g T := propext ⟨fun h => h, fun h => h⟩
attribute [go_sem] rnj_n rnj_r rnj_e
end

/-- the code of 'for i := ..; i < n; i++' -/
@[reducible] def cntC (b0 b1 vi vc : Nat) (cr : List AIns) (body : ACode) : ACode :=
  .block b0 (.loop (.seq (.seq (.region cr []) (.cond (.v vc) .skip (.exit b0))) (.seq (.block b1 body) (.region [⟨none, .mv (.v vi), none⟩, ⟨none, .bin .add (.l 0) (.k (.int .i64 1)), none⟩, ⟨some vi, .mv (.l 1), none⟩] []))))

theorem Ex.count {E : Env} {b0 b1 vi vc : Nat} {cr : List AIns} {body : ACode} {g : Frame} {S : Store} {Q : AExit → Frame → Store → Prop} {q : Dm Q} {n : Nat} (I : Nat → Frame → Store → Prop) {i0 : Nat}
    (hv : vi ≠ vc ∧ b0 ≠ b1) (hn : n ≤ 9223372036854775807) (hi : g vi = .int .i64 i0) (hi0 : i0 ≤ n) (h0 : I i0 g S)
    (cond : ∀ i g T, i ≤ n → g vi = .int .i64 (i : Int) → I i g T → wpI E cr g T [] (fun g' T' _ => g' = upd g vc (.bool (decide ((i : Int) < (n : Int)))) ∧ T' = T) .mk)
    (step : ∀ i g T, i < n → g vi = .int .i64 (i : Int) → I i g T → wpC E body (upd g vc (.bool true)) T (rndJ b0 b1 vi i I Q) .mk)
    (done : ∀ g T, g vi = .int .i64 n → I n g T → Q .normal (upd g vc (.bool false)) T) : wpC E (cntC b0 b1 vi vc cr body) g S Q q := by
  obtain ⟨h1, h4⟩ := hv
  refine Ex.while (fun k g T => ∃ i : Nat, k = n - i ∧ i ≤ n ∧ g vi = .int .i64 i ∧ I i g T) (n - i0) ⟨i0, rfl, hi0, hi, h0⟩ ?_
  rintro k g T ⟨i, rfl, hin, hgi, hI⟩
  rw [w_seq, w_seq, w_reg]
  refine wpI_mono (cond i g T hin hgi hI) fun g' T' _ hh => ?_
  obtain ⟨rfl, rfl⟩ := hh
  rw [seqK_n, w_cond]
  by_cases hlt : i < n
  · have e : decide ((i : Int) < (n : Int)) = true := by simp [hlt]
    simp only [e, ev_v, upd_apply, if_true, ifV_bool', cnd_true', w_skip, seqK_n]
    rw [w_seq, w_block]
    have hs := step i g T' hlt hgi hI
    have key : ∀ g' T', (g' vi = .int .i64 i ∧ I (i + 1) (upd g' vi (.int .i64 ((i + 1 : Nat) : Int))) T') →
        wpC E (.region [⟨none, .mv (.v vi), none⟩, ⟨none, .bin .add (.l 0) (.k (.int .i64 1)), none⟩, ⟨some vi, .mv (.l 1), none⟩] []) g' T' (fun ex g'' S' => match ex with | .normal => ∃ k', k' < n - i ∧ ∃ j : Nat, k' = n - j ∧ j ≤ n ∧ g'' vi = .int .i64 j ∧ I j g'' S' | ex => blkK b0 Q ex g'' S') .mk := fun g' T' ⟨a1, a3⟩ => by
      rw [w_reg, i_nn, o_mv, insK_eq, i_nn, o_bin]
      simp only [ev_v, ev_k, ev_l, List.nil_append, g0, a1, b_add, thnV_some, insK_eq]
      rw [i_sn, o_mv]
      simp only [List.cons_append, List.nil_append, ev_l, g0, gS, insKt_eq, i_nil]
      rw [wrap64 (by omega) (by omega)]
      have e1 : ((i : Int) + 1) = ((i + 1 : Nat) : Int) := by omega
      rw [e1]
      exact ⟨_, (by omega : n - (i + 1) < n - i), i + 1, rfl, by omega, by simp [upd_apply], a3⟩
    refine wpC_mono hs fun ex g' T' hk => ?_
    cases ex with
    | normal => rw [blkK_n, seqK_n]; exact key g' T' hk
    | exit b =>
      rw [rnj_e] at hk
      rw [blkK_e]
      by_cases hb : b = b1
      · rw [if_pos hb] at hk ⊢; rw [seqK_n]; exact key g' T' hk
      · rw [if_neg hb] at hk ⊢; rw [seqK_e]
        simp only [blkK_e]
        by_cases hb0 : b = b0
        · rw [if_pos hb0] at hk ⊢; exact hk
        · rw [if_neg hb0] at hk ⊢; exact hk
    | ret => rw [blkK_r, seqK_r]; exact hk
  · have e : decide ((i : Int) < (n : Int)) = false := by simp; omega
    simp only [e, ev_v, upd_apply, if_true, ifV_bool', cnd_false', w_exit, seqK_e]
    have : i = n := by omega
    subst this
    rw [blkK_e, if_pos rfl]
    exact done g T' hgi hI

end Go.Proofs.YtaajlbbooneiiaaDoor.Avm
set_option linter.unusedVariables false
set_option linter.unusedSimpArgs false
set_option linter.unusedSectionVars false
namespace Go.Proofs.YtaajlbbooneiiaaDoor.Avm
section
variable {α : Type} [Rec α]
theorem cl_split {l : List α} {j : Nat} (h : j < l.length) : cl l = cl (l.take j) ++ (Rec.c l[j] ++ cl (l.drop (j + 1))) := by
  rw [← cl_cons, ← cl_append, ← List.drop_eq_getElem_cons h, List.take_append_drop]
theorem ldO_cl {l : List α} {n j off : Nat} (h : j < l.length) (hn : n = Rec.sz α) (ho : off = j * Rec.sz α) : ldO true n off (.cells (cl l)) = some (.agg (Rec.c l[j])) := by
  subst hn; subst ho
  have hl := cl_len l
  have h2 : (j + 1) * Rec.sz α ≤ l.length * Rec.sz α := Nat.mul_le_mul_right _ h
  rw [Nat.add_mul, Nat.one_mul] at h2
  rw [ldO_n _ _ _ (by omega), cl_at h, List.take_append_of_le_length (by rw [Rec.len]; omega), List.take_of_length_le (by rw [Rec.len]; omega)]
theorem ldO_cl1 {l : List α} {n j off k : Nat} {v : AV} (h : j < l.length) (hk : (Rec.c l[j])[k]? = some v) (ho : off = j * Rec.sz α + k) : ldO false n off (.cells (cl l)) = some v := by
  subst ho
  rw [ldO_1, cl_split h, List.getElem?_append_right (by rw [cl_len, List.length_take]; have := Nat.mul_le_mul_right (Rec.sz α) (Nat.min_le_left j l.length); omega)]
  rw [cl_len, List.length_take, Nat.min_eq_left (by omega)]
  have hk' := (List.getElem?_eq_some_iff.1 hk).1
  rw [show j * Rec.sz α + k - j * Rec.sz α = k by omega, List.getElem?_append_left hk']; exact hk
theorem stO_cl {S : Store} {id : Nat} {l : List α} {n j off : Nat} {a : α} (h : j < l.length) (hn : n = Rec.sz α) (ho : off = j * Rec.sz α) :
    stO S id n off (.agg (Rec.c a)) (.cells (cl l)) = some (.undef, S.set id (.cells (cl (l.set j a)))) := by
  subst hn; subst ho
  have hl := cl_len l
  have h2 : (j + 1) * Rec.sz α ≤ l.length * Rec.sz α := Nat.mul_le_mul_right _ h
  rw [Nat.add_mul, Nat.one_mul] at h2
  rw [stO_c _ _ _ _ _ _ (by rw [c_agg, Rec.len]) (by omega)]
  rw [cl_take, c_agg, show j * Rec.sz α + Rec.sz α = (j + 1) * Rec.sz α by rw [Nat.add_mul, Nat.one_mul], cl_drop, List.append_assoc, ← cl_cons, ← cl_append]
  rw [show l.take j ++ a :: l.drop (j + 1) = l.set j a from (List.set_eq_take_append_cons_drop .. ▸ by simp [h])]
/-- one cell of a record -/
theorem stO_cl1 {S : Store} {id : Nat} {l : List α} {j off k : Nat} {a : α} {v : AV} (h : j < l.length) (hv : v.cells = [v]) (hk : k < Rec.sz α) (ho : off = j * Rec.sz α + k) (ha : Rec.c a = (Rec.c l[j]).set k v) :
    stO S id 1 off v (.cells (cl l)) = some (.undef, S.set id (.cells (cl (l.set j a)))) := by
  subst ho
  have hl := cl_len l
  have h2 : (j + 1) * Rec.sz α ≤ l.length * Rec.sz α := Nat.mul_le_mul_right _ h
  rw [Nat.add_mul, Nat.one_mul] at h2
  rw [stO_c _ _ _ _ _ _ (by rw [hv]; rfl) (by omega), hv]
  congr 4
  have e : l.set j a = l.take j ++ a :: l.drop (j + 1) := by rw [List.set_eq_take_append_cons_drop]; simp [h]
  rw [e, cl_append, cl_cons, ha, cl_split h]
  have l1 : (cl (l.take j)).length = j * Rec.sz α := by rw [cl_len, List.length_take, Nat.min_eq_left (by omega)]
  have l2 : (Rec.c l[j]).length = Rec.sz α := Rec.len _
  have e2 : (Rec.c l[j]).set k v = (Rec.c l[j]).take k ++ v :: (Rec.c l[j]).drop (k + 1) := by rw [List.set_eq_take_append_cons_drop]; simp [l2, hk]
  have t1 : (cl (l.take j) ++ (Rec.c l[j] ++ cl (l.drop (j + 1)))).take (j * Rec.sz α + k) = cl (l.take j) ++ (Rec.c l[j]).take k := by
    rw [List.take_append, List.take_of_length_le (by omega), l1, show j * Rec.sz α + k - j * Rec.sz α = k by omega, List.take_append_of_le_length (by omega)]
  have t2 : (cl (l.take j) ++ (Rec.c l[j] ++ cl (l.drop (j + 1)))).drop (j * Rec.sz α + k + 1) = (Rec.c l[j]).drop (k + 1) ++ cl (l.drop (j + 1)) := by
    rw [List.drop_append, List.drop_eq_nil_of_le (by omega), l1, show j * Rec.sz α + k + 1 - j * Rec.sz α = k + 1 by omega, List.drop_append_of_le_length (by omega), List.nil_append]
  rw [t1, t2, e2]
  simp
theorem ia_slE {sz n id i : Nat} (k : IntKind) (h : i < n) : iaddrA sz (.sl id 0 n sz) (.int k i) = some (.ptr id (i * sz)) := by rw [ia_sl k h, Nat.zero_add]
end
theorem sl_sl {sz id off n i j : Nat} {lo hi : Option AV} (h1 : optI 0 lo = some (i : Int)) (h2 : optI n hi = some (j : Int)) (hij : i ≤ j) (hj : j ≤ n) : sliceA sz (.sl id off n sz) lo hi none = some (.sl id (off + i * sz) (j - i) sz) := by
  simp only [sliceA, h1, h2, Option.bind_some, show optI (n : Int) none = some (n : Int) from rfl, Option.isNone_none, true_or, and_true, true_and, if_true, Int.toNat_natCast]
  rw [if_pos (by omega)]
theorem sl_sl3 {sz id off n i j m : Nat} {k1 k2 k3 : IntKind} (hij : i ≤ j) (hj : j ≤ m) (hm : m ≤ n) : sliceA sz (.sl id off n sz) (some (.int k1 i)) (some (.int k2 j)) (some (.int k3 m)) = some (.slc id (off + i * sz) (j - i) (m - i) sz) := by
  simp only [sliceA, optI, Option.bind_some, Option.isNone_some, Bool.false_eq_true, false_or, Option.isSome_some, and_true, true_and, if_false, Int.toNat_natCast]
  rw [if_pos (by omega)]
theorem slx_sl {S : Store} {sz id off n i j : Nat} {k1 k2 : IntKind} {cs : List AV} (hS : S[id]? = some (.cells cs)) (hij : i ≤ j) (hj : off + j * sz ≤ cs.length) : slicexA S sz (.sl id off n sz) (.int k1 i) (.int k2 j) = some (.sl id (off + i * sz) (j - i) sz) := by
  simp only [slicexA, hS, Int.toNat_natCast, true_and]
  rw [if_pos ⟨by omega, by omega, hj⟩]
theorem el_sl {S : Store} {sz id off n : Nat} {cs : List AV} (hS : S[id]? = some (.cells cs)) (h : off + n * sz ≤ cs.length) : elems S sz (.sl id off n sz) = some ((cs.drop off).take (n * sz), n) := by
  simp only [elems, hS, true_and]; rw [if_pos h]
theorem optI_n (d : Int) : optI d none = some d := rfl
theorem optI_s (d : Int) (k : IntKind) (n : Int) : optI d (some (.int k n)) = some n := rfl
attribute [go_sem] List.set_set
end Go.Proofs.YtaajlbbooneiiaaDoor.Avm
set_option linter.unusedVariables false
set_option linter.unusedSimpArgs false
set_option linter.unusedSectionVars false
namespace Go.Proofs.YtaajlbbooneiiaaDoor.Avm

/-- a slice, known to be nil or known not to be -/
def nils (v v' : AV) : Prop := (v' = v ∧ v ≠ .csl [] 0) ∨ (v = .csl [] 0 ∧ (v' = .nilS ∨ v' = .nsl))
inductive NilsL : List AV → List AV → Prop
  | nil : NilsL [] []
  | cons {v v' : AV} {l l' : List AV} (h : nils v v') (k : NilsL l l') : NilsL (v :: l) (v' :: l')
theorem nils_V {w0 : World} {φ : Pc} {v : AV} {cv : Value} (h : V w0 φ v cv) : ∃ v', nils v v' ∧ V w0 φ v' cv := by
  by_cases e : v = .csl [] 0
  · subst e
    obtain ⟨a, c, cvs, rfl, _⟩ | ⟨_, _, rfl⟩ := h.csl_inv
    · exact ⟨.nsl, .inr ⟨rfl, .inr rfl⟩, .nsl⟩
    · exact ⟨.nilS, .inr ⟨rfl, .inl rfl⟩, .nilS⟩
  · exact ⟨v, .inl ⟨rfl, e⟩, h⟩
theorem nilsL_V {w0 : World} {φ : Pc} : ∀ {l : List AV} {cvs : List Value}, Vs w0 φ l cvs → ∃ l', NilsL l l' ∧ Vs w0 φ l' cvs
  | [], cvs, h => ⟨[], .nil, h⟩
  | v :: l, cvs, h => by
    obtain ⟨cv, cvs', rfl, h1, h2⟩ := h.cons_inv
    obtain ⟨v', k1, k2⟩ := nils_V h1
    obtain ⟨l', m1, m2⟩ := nilsL_V h2
    exact ⟨v' :: l', .cons k1 m1, .cons k2 m2⟩

noncomputable section
open Classical
variable {α : Type}
/-- what a call answers and leaves, by what its arguments read as -/
def primO (enc : α → List AV) (res : α → Store → Option (AV × Store)) (args : List AV) (S : Store) : Option (AV × Store) :=
  if h : ∃ a, rd0L args = some (enc a) then res h.choose S else none
end
section
variable {α : Type} {enc : α → List AV} {res : α → Store → Option (AV × Store)} {args : List AV} {S S' : Store} {a : α} {v : AV}
theorem primO_eq (hi : Inj enc) (h : rd0L args = some (enc a)) : primO enc res args S = res a S := by
  have he : ∃ a, rd0L args = some (enc a) := ⟨a, h⟩
  have : he.choose = a := hi _ _ (Option.some.inj (he.choose_spec.symm.trans h))
  unfold primO; rw [dif_pos he, this]
theorem primO_inv (h : primO enc res args S = some (v, S')) : ∃ a, rd0L args = some (enc a) ∧ res a S = some (v, S') := by
  unfold primO at h
  split at h
  · rename_i he; exact ⟨_, he.choose_spec, h⟩
  · cases h
end
def OkO {α : Type} (E : Env) (f : Nat) (enc : α → List AV) (res : α → Store → Option (AV × Store)) : Prop := ∀ a v S S', res a S = some (v, S') → ∃ v1 S1, Is E f (enc a) S v1 S1 ∧ Conv S S1 v1 S' v
def OkN {α : Type} (E : Env) (f : Nat) (enc : α → List AV) (res : α → Store → Option (AV × Store)) : Prop := ∀ a v S S', res a S = some (v, S') → ∀ args', NilsL (enc a) args' → ∃ v1 S1, Is E f args' S v1 S1 ∧ Conv S S1 v1 S' v

theorem AllOK.addN {P : Program} {E : Env} (hmix : P.follows .mixedOrders = true) (hE : AllOK P E) {α : Type} {enc : α → List AV} {res : α → Store → Option (AV × Store)} {f : Nat} (h : OkN E f enc res) : AllOK P (E.add f (primO enc res)) := fun w0 =>
  { fn := (hE w0).fn
    prim := fun g q hq cf hcf args S v S' hp φ w vs hr hv => by
      simp only [Env.add] at hq
      split at hq
      · rename_i hg; subst hg; cases hq
        obtain ⟨a, h1, h2⟩ := primO_inv hp
        have hv0 : Vs w0 φ (enc a) vs := rd0L_V (fun _ _ h => h) h1 hv
        obtain ⟨args', n1, n2⟩ := nilsL_V hv0
        obtain ⟨v1, S1, ⟨N, hN⟩, hc⟩ := h a v S S' h2 args' n1
        rcases run_ok hmix (hE w0) N g args' _ v1 S1 (hN N (Nat.le_refl _)) _ w vs hr n2 with k | ⟨f, xas, w1, k1, k2⟩
        · obtain ⟨φ', cv, w', k1, k2, k3, k4⟩ := k
          obtain ⟨φ2, m1, m2, m3⟩ := hc.rel hr k2 k3 k4
          exact .inl ⟨φ2, cv, w', k1, m1, m2, m3⟩
        · refine .inr ⟨f, xas, w1, k1, k2.mono fun e w' hb => ?_⟩
          obtain ⟨φ', cv, e1, e2, e3, e4⟩ := hb
          obtain ⟨φ2, m1, m2, m3⟩ := hc.rel hr e2 e3 e4
          exact ⟨φ2, cv, e1, m1, m2, m3⟩
      · exact (hE w0).prim g q hq cf hcf args S v S' hp φ w vs hr hv }
theorem AllOK.addO {P : Program} {E : Env} (hmix : P.follows .mixedOrders = true) (hE : AllOK P E) {α : Type} {enc : α → List AV} {res : α → Store → Option (AV × Store)} {f : Nat} (h : OkO E f enc res) : AllOK P (E.add f (primO enc res)) := fun w0 =>
  { fn := (hE w0).fn
    prim := fun g q hq cf hcf args S v S' hp φ w vs hr hv => by
      simp only [Env.add] at hq
      split at hq
      · rename_i hg; subst hg; cases hq
        obtain ⟨a, h1, h2⟩ := primO_inv hp
        have hv0 : Vs w0 φ (enc a) vs := rd0L_V (fun _ _ h => h) h1 hv
        obtain ⟨v1, S1, ⟨N, hN⟩, hc⟩ := h a v S S' h2
        rcases run_ok hmix (hE w0) N g (enc a) _ v1 S1 (hN N (Nat.le_refl _)) _ w vs hr hv0 with k | ⟨f, xas, w1, k1, k2⟩
        · obtain ⟨φ', cv, w', k1, k2, k3, k4⟩ := k
          obtain ⟨φ2, m1, m2, m3⟩ := hc.rel hr k2 k3 k4
          exact .inl ⟨φ2, cv, w', k1, m1, m2, m3⟩
        · refine .inr ⟨f, xas, w1, k1, k2.mono fun e w' hb => ?_⟩
          obtain ⟨φ', cv, e1, e2, e3, e4⟩ := hb
          obtain ⟨φ2, m1, m2, m3⟩ := hc.rel hr e2 e3 e4
          exact ⟨φ2, cv, e1, m1, m2, m3⟩
      · exact (hE w0).prim g q hq cf hcf args S v S' hp φ w vs hr hv }
theorem callO {α : Type} {E : Env} {f : Nat} {enc : α → List AV} {res : α → Store → Option (AV × Store)} {args : List AV} {S S' : Store} {a : α} {v : AV} {K : AV → Store → Prop} {d : Dm K}
    (h : E.prim f = some fun _ => primO enc res) (hi : Inj enc) (hr : rd0L args = some (enc a)) (hs : res a S = some (v, S')) : SpD E f args S K d = K v S' :=
  Is.spD (Is.prim h ((primO_eq hi hr).trans hs)) K d

/-- one object gets a name -/
def rhoO (S : Store) (id : Nat) (i : Nat) : Option Nat := if i < S.length then some i else if i = id then some S.length else none
theorem Conv.ownV {S T : Store} {id : Nat} {cs : List AV} {v v' : AV} (hp : S <+: T) (hi : S.length ≤ id) (hT : T[id]? = some (.cells cs)) (hc : PureL cs) (hv : Cv T (rhoO S id) v v') : Conv S T v (S ++ [.cells cs]) v' := by
  obtain ⟨U, rfl⟩ := hp
  have hlt := (List.getElem?_eq_some_iff.1 hT).1
  refine ⟨rhoO S id, fun i' => if i' < S.length then i' else id, fun i h => if_pos h, fun i i' h => ?_, fun i' h => ?_, fun i' x' h => ?_, hv⟩
  · unfold rhoO at h
    split at h
    · rename_i hl; cases h; simp; exact ⟨by omega, fun h => by omega⟩
    · split at h
      · rename_i e; cases h; simp [e]
      · cases h
  · simp only [List.length_append, List.length_singleton] at h
    by_cases hl : i' < S.length
    · simp only [hl, if_true]; exact ⟨by simp; omega, if_pos hl⟩
    · have : i' = S.length := by omega
      subst this
      simp only [hl, if_false]
      exact ⟨hlt, by unfold rhoO; rw [if_neg (by omega), if_pos rfl]⟩
  · by_cases hl : i' < S.length
    · rw [List.getElem?_append_left hl] at h
      exact .inl ⟨hl, h, by rw [List.getElem?_append_left hl]; exact h⟩
    · have : i' = S.length := by have := (List.getElem?_eq_some_iff.1 h).1; simp at this; omega
      subst this
      simp at h; subst h
      refine .inr ⟨.cells cs, by simp only [hl, if_false]; exact hT, ?_⟩
      obtain ⟨q1, q2⟩ := rd0L_Cv (S ++ U) (rhoO S id) cs cs hc
      exact .cells q1 q2
theorem rhoO_id (S : Store) {id : Nat} (h : S.length ≤ id) : rhoO S id id = some S.length := by unfold rhoO; rw [if_neg (by omega), if_pos rfl]
theorem Conv.own {S T : Store} {id n sz : Nat} {cs : List AV} (hp : S <+: T) (hi : S.length ≤ id) (hT : T[id]? = some (.cells cs)) (hc : PureL cs) : Conv S T (.sl id 0 n sz) (S ++ [.cells cs]) (.sl S.length 0 n sz) :=
  Conv.ownV hp hi hT hc (.sl (rhoO_id S hi))

/-! ### slices.Clone -/
def cloneF (sz bytes : Nat) : AFunc := ⟨1, (.seq (.region [⟨(some 2), (.mv (.k .nilS)), none⟩] []) (.seq (.seq (.region [⟨none, (.mv (.v 0)), none⟩, ⟨(some 4), (.eqn false 1 (.l 0) (.k .nilS)), none⟩] []) (.cond (.v 4) (.seq (.region [⟨(some 2), (.mv (.k .nilS)), none⟩] []) .ret) .skip)) (.seq (.region [⟨none, (.lit sz 0 [] []), none⟩, ⟨none, (.mv (.v 0)), none⟩, ⟨none, (.append sz bytes (.l 0) (.l 1)), none⟩, ⟨(some 2), (.mv (.l 2)), none⟩] []) .ret))), [(.tmp 2)]⟩
/-- a list as a row of its own, at the store's end -/
noncomputable def ownRow {α : Type} [Rec α] (m : Nat) (l : List α) (S : Store) : Option (AV × Store) := if l.length ≤ m then some (if l.length = 0 then (.csl [] 0, S) else (.sl S.length 0 l.length (Rec.sz α), S ++ [.cells (cl l)])) else none

theorem ok_cloneF {α : Type} [Rec α] {E : Env} {f sz bytes m : Nat} (hp : E.prim f = none) (hf : E.F f = some (cloneF sz bytes)) (hs : sz = Rec.sz α) (hb : m * bytes ≤ 140737488355328) :
    OkN E f (fun l : List α => [enc l]) (ownRow m) := by
  subst hs
  intro l v S S' h args' hn
  unfold ownRow at h
  split at h
  rotate_left
  · cases h
  rename_i hlm
  obtain ⟨x, rfl, hx⟩ : ∃ x, args' = [x] ∧ nils (enc l) x := by cases hn with | cons hn hn2 => cases hn2; exact ⟨_, rfl, hn⟩
  have hlb : l.length * bytes ≤ 140737488355328 := Nat.le_trans (Nat.mul_le_mul_right _ hlm) hb
  clear hn
  unfold nils at hx
  rcases hx with ⟨rfl, hne⟩ | ⟨he, rfl | rfl⟩
  · have hl : l.length ≠ 0 := fun e => hne (by
      have : l = [] := List.eq_nil_of_length_eq_zero e
      subst this; rfl)
    rw [if_neg hl] at h; cases h
    have hisn : eqnA false 1 (enc l) .nilS = some (.bool false) := by rw [eqnA_eq false 1 _ _ false (by simp [enc, isNil, hl]) rfl]; rfl
    have key : Sp E f [enc l] S fun v T => v = .sl (S.length + 1) 0 l.length (Rec.sz α) ∧ T = S ++ [.dead, .cells (cl l)] := by
      refine Sp.intro hp hf rfl ?_
      simp -dsimp only [go_sem, cloneF, hisn]
      have happ : appA (S ++ [.cells []]) (Rec.sz α) bytes (.sl S.length 0 0 (Rec.sz α)) (enc l) = some (.sl (S.length + 1) 0 l.length (Rec.sz α), S ++ [.dead, .cells (cl l)]) := by
        rw [appA_eq, el_enc l rfl, Option.bind_some]
        have hpos := @Rec.pos α _
        have : ¬ (l.length * Rec.sz α ≤ 0) := by
          have := Nat.mul_pos (Nat.pos_of_ne_zero hl) hpos; omega
        have this' : ¬ l.length * Rec.sz α = 0 := by omega
        simp only [get_new0, set_new0, hlb, List.getElem?_cons_zero, if_true, Nat.zero_add, List.length_nil, Nat.zero_mul, this, if_false, and_self, List.drop_nil, List.nil_append, List.length_append, List.length_set, List.set_cons_zero, List.length_singleton, List.append_assoc, List.cons_append]
      have hz : litA S (Rec.sz α) 0 [] (some []) = some (.sl S.length 0 0 (Rec.sz α), S ++ [.cells []]) := litA_eq _ _ _ _ _ (by simp)
      simp -dsimp only [go_sem, cloneF, hz, happ]
    obtain ⟨v, T, ⟨rfl, rfl⟩, hi⟩ := key
    refine ⟨_, _, hi, Conv.own (cs := cl l) (List.prefix_append _ _) (by omega) ?_ (cl_pure l)⟩
    rw [get_new]; rfl
  · have hl : l.length = 0 := by have := congrArg (fun | AV.csl _ n => n | _ => 0) he; simpa [enc] using this
    rw [if_pos hl] at h; cases h
    have hisn : eqnA false 1 .nilS .nilS = some (.bool true) := rfl
    have key : Sp E f [.nilS] S fun v T => v = .nilS ∧ T = S := by
      refine Sp.intro hp hf rfl ?_
      simp -dsimp only [go_sem, cloneF, hisn]
    obtain ⟨v, T, ⟨rfl, rfl⟩, hi⟩ := key
    exact ⟨_, _, hi, Conv.good List.prefix_rfl (fun i h => by simp [topIds] at h) rfl⟩
  · have hl : l.length = 0 := by have := congrArg (fun | AV.csl _ n => n | _ => 0) he; simpa [enc] using this
    rw [if_pos hl] at h; cases h
    have hisn : eqnA false 1 .nsl .nilS = some (.bool false) := rfl
    have key : Sp E f [.nsl] S fun v T => v = .sl S.length 0 0 (Rec.sz α) ∧ T = S ++ [.cells []] := by
      refine Sp.intro hp hf rfl ?_
      simp -dsimp only [go_sem, cloneF, hisn]
      have hz : litA S (Rec.sz α) 0 [] (some []) = some (.sl S.length 0 0 (Rec.sz α), S ++ [.cells []]) := litA_eq _ _ _ _ _ (by simp)
      have happ : appA (S ++ [.cells []]) (Rec.sz α) bytes (.sl S.length 0 0 (Rec.sz α)) .nsl = some (.sl S.length 0 0 (Rec.sz α), S ++ [.cells []]) := by
        rw [appA_eq, show elems (S ++ [.cells []]) (Rec.sz α) .nsl = some ([], 0) from rfl]
        simp [get_new0, set_new0]
      simp -dsimp only [go_sem, cloneF, hz, happ]
    obtain ⟨v, T, ⟨rfl, rfl⟩, hi⟩ := key
    refine ⟨_, _, hi, Conv.good (List.prefix_append _ _) (fun i h => by simp [topIds] at h; omega) ?_⟩
    simp [rdS, get_new0, rd0L]

/-- an own row, and what lies behind it, reads as its list -/
theorem rd_own {α : Type} [Rec α] {T : Store} {id n sz : Nat} {l : List α} {rest : List AV} (h : T[id]? = some (.cells (cl l ++ rest))) (hn : n = l.length) (hs : sz = Rec.sz α) : rdS T (.sl id 0 n sz) = some (enc l) := by
  subst hn; subst hs
  simp only [rdS, h, Nat.zero_add]
  have hl := cl_len l
  rw [if_pos (by rw [List.length_append]; omega), List.drop_zero, List.take_append_of_le_length (by omega), List.take_of_length_le (by omega), show rd0L (cl l) = some (cl l) from cl_pure l]; rfl
theorem conv_pair {S T : Store} {x v : AV} {k : IntKind} {c : Int} (hp : S <+: T) (hi : ∀ i, i ∈ topIds x → S.length ≤ i) (h : rdS T x = some v) : Conv S T (.tup [x, .int k c]) S (.tup [v, .int k c]) :=
  Conv.good hp (fun i hm => by simp [topIds, topIdsL] at hm; exact hi i hm) (by simp [rdS, rdSL, h, rd0])
theorem inj_one {α : Type} [Rec α] : Inj (fun l : List α => [enc l]) := fun a b h => by simpa only [List.cons.injEq, enc_inj, and_true] using h
theorem call_clone {α : Type} [Rec α] {E : Env} {f m : Nat} {S : Store} {K : AV → Store → Prop} {d : Dm K} (h : E.prim f = some fun _ => primO (fun l : List α => [enc l]) (ownRow m)) (l : List α) (hm : l.length ≤ m) (hl : l.length ≠ 0) :
    SpD E f [enc l] S K d = K (.sl S.length 0 l.length (Rec.sz α)) (S ++ [.cells (cl l)]) :=
  callO h inj_one (a := l) (by simp only [rd0L, enc_rd0, Option.bind_some, Option.map_some]) (by unfold ownRow; rw [if_pos hm, if_neg hl])
theorem call_clone0 {α : Type} [Rec α] {E : Env} {f m : Nat} {S : Store} {K : AV → Store → Prop} {d : Dm K} (h : E.prim f = some fun _ => primO (fun l : List α => [enc l]) (ownRow m)) :
    SpD E f [enc ([] : List α)] S K d = K (.csl [] 0) S :=
  callO h inj_one (a := []) (by simp only [rd0L, enc_rd0, Option.bind_some, Option.map_some]) (by unfold ownRow; rw [if_pos (by simp)]; rfl)

end Go.Proofs.YtaajlbbooneiiaaDoor.Avm
