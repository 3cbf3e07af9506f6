/- Records, lists of records as slices, a call's own rows, loops over ranges. -/
import Derived.Test.YtmijfhepagobdaaA21
import Derived.Test.YtmijfhepagobdaaA23
set_option linter.unusedVariables false
set_option linter.unusedSimpArgs false
set_option linter.unusedSectionVars false
namespace Go.Proofs.Ytmijfhepagobdaa.Avm

/-- cells that lead to no object -/
def PureL (cs : List AV) : Prop := rd0L cs = some cs
theorem rd0L_append {a b a' b' : List AV} (ha : rd0L a = some a') (hb : rd0L b = some b') : rd0L (a ++ b) = some (a' ++ b') := by
  induction a generalizing a' with
  | nil => simp only [rd0L, Option.some.injEq] at ha; subst ha; exact hb
  | cons v l ih =>
    simp only [rd0L, Option.bind_eq_some_iff, Option.map_eq_some_iff] at ha
    obtain ⟨u, h1, us, h2, rfl⟩ := ha
    simp only [List.cons_append, rd0L, h1, Option.bind_some, ih h2, Option.map_some]
theorem PureL.append {a b : List AV} (ha : PureL a) (hb : PureL b) : PureL (a ++ b) := rd0L_append ha hb
theorem PureL.nil : PureL [] := rfl
theorem rd0L_cons {v : AV} {l : List AV} (h : rd0 v = some v) (k : PureL l) : PureL (v :: l) := by
  simp only [PureL, rd0L, h, Option.bind_some]; rw [show rd0L l = some l from k]; rfl
theorem PureL.head {v : AV} {l : List AV} (h : PureL (v :: l)) : rd0 v = some v ∧ PureL l := by
  simp only [PureL, rd0L, Option.bind_eq_some_iff, Option.map_eq_some_iff, List.cons.injEq] at h
  obtain ⟨u, h1, us, h2, rfl, rfl⟩ := h
  exact ⟨h1, h2⟩
theorem PureL.drop {l : List AV} (h : PureL l) : ∀ n, PureL (l.drop n) := by
  induction l with
  | nil => intro n; simpa using h
  | cons v l ih => intro n; cases n with
    | zero => exact h
    | succ n => exact ih h.head.2 n
theorem PureL.take {l : List AV} (h : PureL l) : ∀ n, PureL (l.take n) := by
  induction l with
  | nil => intro n; simpa using h
  | cons v l ih => intro n; cases n with
    | zero => exact .nil
    | succ n => exact rd0L_cons h.head.1 (ih h.head.2 n)
theorem PureL.mem {l : List AV} (h : PureL l) : ∀ v, v ∈ l → rd0 v = some v := by
  induction l with
  | nil => intro v hv; cases hv
  | cons u l ih => intro v hv; cases hv with
    | head => exact h.head.1
    | tail _ hv => exact ih h.head.2 v hv

mutual
theorem rd0_idem : ∀ (v u : AV), rd0 v = some u → rd0 u = some u
  | .nilS, u, h | .emp, u, h | .nsl, u, h | .int _ _, u, h | .bool _, u, h | .str _, u, h | .nilP, u, h | .nilM, u, h | .nilC, u, h | .nilF, u, h | .nilI, u, h => by
    simp only [rd0, Option.some.injEq] at h; subst h; rfl
  | .csl cs n, u, h | .csln cs n, u, h => by
    simp only [rd0, Option.map_eq_some_iff] at h
    obtain ⟨ds, h, rfl⟩ := h
    simp only [rd0]; rw [rd0L_idem _ _ h]; rfl
  | .cptr cs, u, h | .agg cs, u, h | .tup cs, u, h | .fn _ cs, u, h => by
    simp only [rd0, Option.map_eq_some_iff] at h
    obtain ⟨ds, h, rfl⟩ := h
    simp only [rd0]; rw [rd0L_idem _ _ h]; rfl
  | .ptr _ _, u, h | .sl _ _ _ _, u, h | .slc _ _ _ _ _, u, h | .map _, u, h | .chan _, u, h | .junk, u, h => by simp [rd0] at h
theorem rd0L_idem : ∀ (l m : List AV), rd0L l = some m → rd0L m = some m
  | [], m, h => by simp only [rd0L, Option.some.injEq] at h; subst h; rfl
  | v :: l, m, h => by
    simp only [rd0L, Option.bind_eq_some_iff, Option.map_eq_some_iff] at h
    obtain ⟨u, h1, us, h2, rfl⟩ := h
    simp only [rd0L, rd0_idem _ _ h1, Option.bind_some, rd0L_idem _ _ h2, Option.map_some]
end

mutual
theorem rd0_Cv (S : Store) (ρ : Nat → Option Nat) : ∀ (v u : AV), rd0 v = some u → Cv S ρ v u
  | .nilS, u, h => by simp only [rd0, Option.some.injEq] at h; subst h; exact .nilS0
  | .emp, u, h => by simp only [rd0, Option.some.injEq] at h; subst h; exact .emp0
  | .nsl, u, h => by simp only [rd0, Option.some.injEq] at h; subst h; exact .nsl0
  | .int _ _, u, h => by simp only [rd0, Option.some.injEq] at h; subst h; exact .int _ _
  | .bool _, u, h => by simp only [rd0, Option.some.injEq] at h; subst h; exact .bool _
  | .str _, u, h => by simp only [rd0, Option.some.injEq] at h; subst h; exact .str _
  | .nilP, u, h => by simp only [rd0, Option.some.injEq] at h; subst h; exact .nilP
  | .nilM, u, h => by simp only [rd0, Option.some.injEq] at h; subst h; exact .nilM
  | .nilC, u, h => by simp only [rd0, Option.some.injEq] at h; subst h; exact .nilC
  | .nilF, u, h => by simp only [rd0, Option.some.injEq] at h; subst h; exact .nilF
  | .nilI, u, h => by simp only [rd0, Option.some.injEq] at h; subst h; exact .nilI
  | .csl cs n, u, h => by
    simp only [rd0, Option.map_eq_some_iff] at h
    obtain ⟨ds, h, rfl⟩ := h
    obtain ⟨h1, h2⟩ := rd0L_Cv S ρ _ _ h
    exact .csl h1 h2
  | .csln cs n, u, h => by
    simp only [rd0, Option.map_eq_some_iff] at h
    obtain ⟨ds, h, rfl⟩ := h
    obtain ⟨h1, h2⟩ := rd0L_Cv S ρ _ _ h
    exact .cslnF h1 h2
  | .cptr cs, u, h => by
    simp only [rd0, Option.map_eq_some_iff] at h
    obtain ⟨ds, h, rfl⟩ := h
    obtain ⟨h1, h2⟩ := rd0L_Cv S ρ _ _ h
    exact .cptr h1 h2
  | .agg cs, u, h => by
    simp only [rd0, Option.map_eq_some_iff] at h
    obtain ⟨ds, h, rfl⟩ := h
    obtain ⟨h1, h2⟩ := rd0L_Cv S ρ _ _ h
    exact .agg h1 h2
  | .tup cs, u, h => by
    simp only [rd0, Option.map_eq_some_iff] at h
    obtain ⟨ds, h, rfl⟩ := h
    obtain ⟨h1, h2⟩ := rd0L_Cv S ρ _ _ h
    exact .tup h1 h2
  | .fn f cs, u, h => by
    simp only [rd0, Option.map_eq_some_iff] at h
    obtain ⟨ds, h, rfl⟩ := h
    obtain ⟨h1, h2⟩ := rd0L_Cv S ρ _ _ h
    exact .fn h1 h2
  | .ptr _ _, u, h | .sl _ _ _ _, u, h | .slc _ _ _ _ _, u, h | .map _, u, h | .chan _, u, h | .junk, u, h => by simp [rd0] at h
theorem rd0L_Cv (S : Store) (ρ : Nat → Option Nat) : ∀ (l m : List AV), rd0L l = some m → l.length = m.length ∧ ∀ (j : Nat) (v u : AV), l[j]? = some v → m[j]? = some u → Cv S ρ v u
  | [], m, h => by simp only [rd0L, Option.some.injEq] at h; subst h; exact ⟨rfl, fun j v u h => by simp at h⟩
  | v :: l, m, h => by
    simp only [rd0L, Option.bind_eq_some_iff, Option.map_eq_some_iff] at h
    obtain ⟨u, h1, us, h2, rfl⟩ := h
    obtain ⟨q1, q2⟩ := rd0L_Cv S ρ _ _ h2
    refine ⟨by simp [q1], fun j a b ha hb => ?_⟩
    cases j with
    | zero => simp at ha hb; subst ha; subst hb; exact rd0_Cv S ρ _ _ h1
    | succ j => simp at ha hb; exact q2 j a b ha hb
end

mutual
theorem rdS_Cv {S : Store} {ρ : Nat → Option Nat} : ∀ (v u : AV), (∀ i, i ∈ topIds v → ρ i = none) → rdS S v = some u → Cv S ρ v u
  | .sl id off n sz, u, hD, h => by
    simp only [rdS] at h
    split at h
    · rename_i cs hS
      split at h
      · rename_i hb
        obtain ⟨ds, h', rfl⟩ := Option.map_eq_some_iff.1 h
        obtain ⟨q1, q2⟩ := rd0L_Cv S ρ _ _ h'
        exact .fsl (hD id (by simp [topIds])) hS hb q1 q2
      · cases h
    · cases h
  | .slc id off n c sz, u, hD, h => by
    simp only [rdS] at h
    split at h
    · rename_i cs hS
      split at h
      · rename_i hb
        obtain ⟨ds, h', rfl⟩ := Option.map_eq_some_iff.1 h
        obtain ⟨q1, q2⟩ := rd0L_Cv S ρ _ _ h'
        exact .fslc (hD id (by simp [topIds])) hS hb q1 q2
      · cases h
    · cases h
  | .agg cs, u, hD, h => by
    simp only [rdS, Option.map_eq_some_iff] at h
    obtain ⟨ds, h, rfl⟩ := h
    obtain ⟨q1, q2⟩ := rdSL_Cv cs ds (fun i hi => hD i (by simpa [topIds] using hi)) h
    exact .agg q1 q2
  | .tup cs, u, hD, h => by
    simp only [rdS, Option.map_eq_some_iff] at h
    obtain ⟨ds, h, rfl⟩ := h
    obtain ⟨q1, q2⟩ := rdSL_Cv cs ds (fun i hi => hD i (by simpa [topIds] using hi)) h
    exact .tup q1 q2
  | .nilS, u, hD, h | .emp, u, hD, h | .nsl, u, hD, h | .csl _ _, u, hD, h | .csln _ _, u, hD, h | .cptr _, u, hD, h | .fn _ _, u, hD, h | .int _ _, u, hD, h | .bool _, u, hD, h
  | .str _, u, hD, h | .nilP, u, hD, h | .nilM, u, hD, h | .nilC, u, hD, h | .nilF, u, hD, h | .nilI, u, hD, h | .ptr _ _, u, hD, h | .map _, u, hD, h | .chan _, u, hD, h | .junk, u, hD, h => rd0_Cv _ _ _ _ (by simpa only [rdS] using h)
theorem rdSL_Cv {S : Store} {ρ : Nat → Option Nat} : ∀ (l m : List AV), (∀ i, i ∈ topIdsL l → ρ i = none) → rdSL S l = some m → l.length = m.length ∧ ∀ (j : Nat) (v u : AV), l[j]? = some v → m[j]? = some u → Cv S ρ v u
  | [], m, hD, h => by simp only [rdSL, Option.some.injEq] at h; subst h; exact ⟨rfl, fun j v u h => by simp at h⟩
  | v :: l, m, hD, h => by
    simp only [rdSL, Option.bind_eq_some_iff, Option.map_eq_some_iff] at h
    obtain ⟨u, h1, us, h2, rfl⟩ := h
    obtain ⟨q1, q2⟩ := rdSL_Cv l us (fun i hi => hD i (by simp [topIdsL, hi])) h2
    refine ⟨by simp [q1], fun j a b ha hb => ?_⟩
    cases j with
    | zero => simp at ha hb; subst ha; subst hb; exact rdS_Cv _ _ (fun i hi => hD i (by simp [topIdsL, hi])) h1
    | succ j => simp at ha hb; exact q2 j a b ha hb
end

/-- a call's answer reads as what stays; its rows are its own -/
theorem Conv.good {S T : Store} {v u : AV} (hp : S <+: T) (hi : ∀ i, i ∈ topIds v → S.length ≤ i) (h : rdS T v = some u) : Conv S T v S u := by
  obtain ⟨U, rfl⟩ := hp
  refine ⟨fun i => if i < S.length then some i else none, id, fun i h => if_pos h, fun i i' h => ?_, fun i' h => ⟨by simp; omega, if_pos h⟩, fun i' x' h => .inl ⟨(List.getElem?_eq_some_iff.1 h).1, h, ?_⟩, rdS_Cv _ _ (fun i h => ?_) h⟩
  · simp only at h
    split at h
    · cases h; rename_i h; exact ⟨h, rfl⟩
    · cases h
  · rw [List.getElem?_append_left (List.getElem?_eq_some_iff.1 h).1]; exact h
  · have := hi i h; exact if_neg (by omega)

/-! ### records -/
class Rec (α : Type) where
  sz : Nat
  c : α → List AV
  len : ∀ a, (c a).length = sz
  pos : 0 < sz
  inj : ∀ a b, c a = c b → a = b
  pure : ∀ a, PureL (c a)

/-- a list as cells -/
def cl {α : Type} [Rec α] (l : List α) : List AV := l.flatMap Rec.c
/-- a list as a slice that stays -/
def enc {α : Type} [Rec α] (l : List α) : AV := .csl (cl l) l.length

section
variable {α : Type} [Rec α]
theorem cl_nil : cl ([] : List α) = [] := rfl
theorem cl_cons (a : α) (l : List α) : cl (a :: l) = Rec.c a ++ cl l := rfl
theorem cl_append (l m : List α) : cl (l ++ m) = cl l ++ cl m := List.flatMap_append
theorem cl_one (a : α) : cl [a] = Rec.c a := by simp [cl]
theorem cl_len (l : List α) : (cl l).length = l.length * Rec.sz α := by
  induction l with
  | nil => simp [cl]
  | cons a l ih => rw [cl_cons, List.length_append, ih, Rec.len, List.length_cons, Nat.add_mul]; omega
theorem cl_pure (l : List α) : PureL (cl l) := by
  induction l with
  | nil => exact .nil
  | cons a l ih => rw [cl_cons]; exact (Rec.pure a).append ih
theorem cl_drop (l : List α) (i : Nat) : (cl l).drop (i * Rec.sz α) = cl (l.drop i) := by
  induction l generalizing i with
  | nil => simp [cl]
  | cons a l ih =>
    cases i with
    | zero => simp
    | succ i =>
      rw [cl_cons, List.drop_succ_cons, ← ih i, Nat.add_mul, Nat.one_mul, List.drop_append, Rec.len, List.drop_eq_nil_of_le (by rw [Rec.len]; omega)]
      simp
theorem cl_take (l : List α) (i : Nat) : (cl l).take (i * Rec.sz α) = cl (l.take i) := by
  induction l generalizing i with
  | nil => simp [cl]
  | cons a l ih =>
    cases i with
    | zero => simp [cl]
    | succ i =>
      rw [cl_cons, List.take_succ_cons, cl_cons, ← ih i, Nat.add_mul, Nat.one_mul, List.take_append, Rec.len, List.take_of_length_le (by rw [Rec.len]; omega)]
      simp
theorem cl_at {l : List α} {i : Nat} (h : i < l.length) : (cl l).drop (i * Rec.sz α) = Rec.c l[i] ++ cl (l.drop (i + 1)) := by
  rw [cl_drop, List.drop_eq_getElem_cons h, cl_cons]
theorem cl_inj : ∀ (l m : List α), cl l = cl m → l.length = m.length → l = m
  | [], [], _, _ => rfl
  | a :: l, b :: m, h, hl => by
    rw [cl_cons, cl_cons] at h
    have := List.append_inj h (by rw [Rec.len, Rec.len])
    rw [Rec.inj a b this.1, cl_inj l m this.2 (by simpa using hl)]
theorem enc_inj {l m : List α} : enc l = enc m ↔ l = m := ⟨fun h => by simp only [enc, AV.csl.injEq] at h; exact cl_inj l m h.1 h.2, fun h => by rw [h]⟩
theorem enc_rd0 (l : List α) : rd0 (enc l) = some (enc l) := by simp only [enc, rd0]; rw [show rd0L (cl l) = some (cl l) from cl_pure l]; rfl
theorem enc_rdS (S : Store) (l : List α) : rdS S (enc l) = some (enc l) := by rw [show rdS S (enc l) = rd0 (enc l) from rfl]; exact enc_rd0 l
theorem enc_top (l : List α) : topIds (enc l) = [] := rfl
theorem enc_cells (l : List α) : (enc l).cells = [enc l] := rfl
theorem len_enc (l : List α) : lenA false (enc l) = some (.int .i64 l.length) := rfl
theorem enc_nil : enc ([] : List α) = .csl [] 0 := rfl
/-- the place of an element -/
theorem ia_enc {sz : Nat} {l : List α} {i : Nat} (k : IntKind) (h : i < l.length) (hs : sz = Rec.sz α) : iaddrA sz (enc l) (.int k i) = some (.cptr (Rec.c l[i] ++ cl (l.drop (i + 1)))) := by
  subst hs; rw [enc, ia_csl k h, cl_at h]
theorem ld_enc {n : Nat} {S : Store} (a : α) (rest : List AV) (h : n = Rec.sz α) : loadA S true n (.cptr (Rec.c a ++ rest)) = some (.agg (Rec.c a)) := by
  subst h; rw [ld_cn _ _ _ (by rw [List.length_append, Rec.len]; omega), List.take_append_of_le_length (by rw [Rec.len]; omega), List.take_of_length_le (by rw [Rec.len]; omega)]
theorem el_enc {S : Store} (l : List α) {sz : Nat} (h : sz = Rec.sz α) : elems S sz (enc l) = some (cl l, l.length) := by
  subst h; simp only [enc, elems]; rw [if_pos (cl_len l)]
theorem sl_enc {sz : Nat} {l : List α} {i j : Nat} {lo hi : Option AV} (h : sz = Rec.sz α) (h1 : optI 0 lo = some (i : Int)) (h2 : optI l.length hi = some (j : Int)) (hij : i ≤ j) (hj : j ≤ l.length) :
    sliceA sz (enc l) lo hi none = some (enc ((l.drop i).take (j - i))) := by
  subst h
  simp only [enc, sliceA, h1, h2, Option.bind_some, show optI (l.length : Int) none = some (l.length : Int) from rfl, Option.isNone_none, Option.isSome_none, Bool.false_eq_true, false_and, true_or, and_true, if_false]
  rw [if_pos (by omega)]
  congr 1
  simp only [Int.toNat_natCast]
  rw [cl_drop, cl_take]
  congr 1
  simp; omega
end

/-! ### a call's own rows -/
/-- a row of the call's own, from objects S0 on -/
def Own (S0 T : Store) (x : AV) (cs : List AV) (n sz : Nat) : Prop :=
  S0 <+: T ∧ cs.length = n * sz ∧ ((x = .nilS ∧ n = 0) ∨ ∃ id, S0.length ≤ id ∧ x = .sl id 0 n sz ∧ T[id]? = some (.cells cs))
def OwnL {α : Type} [Rec α] (S0 T : Store) (x : AV) (l : List α) : Prop := Own S0 T x (cl l) l.length (Rec.sz α)

theorem prefix_set {S T : Store} (h : S <+: T) {i : Nat} (hi : S.length ≤ i) (o : AObj) : S <+: T.set i o := by
  obtain ⟨U, rfl⟩ := h
  exact ⟨U.set (i - S.length) o, by rw [List.set_append_right _ _ hi]⟩
theorem prefix_app {S T : Store} (h : S <+: T) (l : List AObj) : S <+: T ++ l := h.trans (List.prefix_append T l)
theorem prefix_len {S T : Store} (h : S <+: T) : S.length ≤ T.length := h.length_le
theorem prefix_get {S T : Store} (h : S <+: T) {i : Nat} {o : AObj} (hi : S[i]? = some o) : T[i]? = some o := by
  obtain ⟨U, rfl⟩ := h; exact get_old hi U

theorem Own.nil {S0 T : Store} (h : S0 <+: T) (sz : Nat) : Own S0 T .nilS [] 0 sz := ⟨h, by simp, .inl ⟨rfl, rfl⟩⟩
theorem OwnL.nil {α : Type} [Rec α] {S0 T : Store} (h : S0 <+: T) : OwnL S0 T .nilS ([] : List α) := Own.nil h _
theorem Own.pre {S0 T : Store} {x : AV} {cs : List AV} {n sz : Nat} (h : Own S0 T x cs n sz) : S0 <+: T := h.1
/-- more objects turn nothing -/
theorem Own.more {S0 T : Store} {x : AV} {cs : List AV} {n sz : Nat} (h : Own S0 T x cs n sz) (l : List AObj) : Own S0 (T ++ l) x cs n sz := by
  obtain ⟨h1, h2, h3⟩ := h
  refine ⟨prefix_app h1 l, h2, h3.imp (fun h => h) fun ⟨id, q1, q2, q3⟩ => ⟨id, q1, q2, get_old q3 l⟩⟩
theorem OwnL.more {α : Type} [Rec α] {S0 T : Store} {x : AV} {l : List α} (h : OwnL S0 T x l) (m : List AObj) : OwnL S0 (T ++ m) x l := Own.more h m
theorem Own.len {S0 T : Store} {x : AV} {cs : List AV} {n sz : Nat} (h : Own S0 T x cs n sz) : lenA false x = some (.int .i64 n) := by
  obtain ⟨_, _, ⟨rfl, rfl⟩ | ⟨id, _, rfl, _⟩⟩ := h <;> rfl
theorem OwnL.len {α : Type} [Rec α] {S0 T : Store} {x : AV} {l : List α} (h : OwnL S0 T x l) : lenA false x = some (.int .i64 l.length) := Own.len h

/-- what a row's other rows keep when it grows -/
def Keep (S0 T T' : Store) (x : AV) : Prop := ∀ (i : Nat) (o : AObj), T[i]? = some o → i ∉ topIds x → T'[i]? = some o

theorem appA_eq (S : Store) (sz bytes : Nat) (x y : AV) : appA S sz bytes x y = (elems S sz y).bind fun (p : List AV × Nat) =>
    match x with
    | .nilS => if p.2 = 0 then some (.nilS, S) else
        if p.2 * bytes ≤ 140737488355328 then some (.sl S.length 0 p.2 sz, S ++ [.cells p.1]) else none
    | .emp => if p.2 = 0 then some (.emp, S) else
        if p.2 * bytes ≤ 140737488355328 then some (.sl S.length 0 p.2 sz, S ++ [.cells p.1]) else none
    | .csl cs n => if p.2 = 0 then some (.csl cs n, S) else none
    | .nsl => if p.2 = 0 then some (.nsl, S) else none
    | .sl id off n sz' => match S[id]? with
      | some (.cells cs) =>
        if sz = sz' then
          if off + (n + p.2) * sz ≤ cs.length then
            some (.sl id off (n + p.2) sz, S.set id (.cells (cs.take (off + n * sz) ++ p.1 ++ cs.drop (off + (n + p.2) * sz))))
          else if off + n * sz = cs.length ∧ (n + p.2) * bytes ≤ 140737488355328 then
            some (.sl S.length 0 (n + p.2) sz, (S.set id .dead) ++ [.cells (cs.drop off ++ p.1)])
          else none
        else none
      | _ => none
    | .slc id off n c sz' => match S[id]? with
      | some (.cells cs) =>
        if sz = sz' ∧ off + c * sz ≤ cs.length then
          if n + p.2 ≤ c then
            some (.slc id off (n + p.2) c sz, S.set id (.cells (cs.take (off + n * sz) ++ p.1 ++ cs.drop (off + (n + p.2) * sz))))
          else if (n + p.2) * bytes ≤ 140737488355328 then
            some (.sl S.length 0 (n + p.2) sz, S ++ [.cells ((cs.drop off).take (n * sz) ++ p.1)])
          else none
        else none
      | _ => none
    | _ => none := rfl

/-- an append to an own row -/
theorem Own.app {S0 T : Store} {x y : AV} {cs ys : List AV} {n m sz bytes : Nat} (h : Own S0 T x cs n sz) (hs : 0 < sz) (hy : elems T sz y = some (ys, m)) (hyl : ys.length = m * sz) (hb : (n + m) * bytes ≤ 140737488355328) :
    ∃ x' T', appA T sz bytes x y = some (x', T') ∧ Own S0 T' x' (cs ++ ys) (n + m) sz ∧ Keep S0 T T' x ∧ (∀ i, i ∈ topIds x' → i ∈ topIds x ∨ T.length ≤ i) := by
  obtain ⟨h1, h2, h3⟩ := h
  rw [appA_eq, hy, Option.bind_some]
  have hp := prefix_len h1
  rcases h3 with ⟨rfl, rfl⟩ | ⟨id, q1, rfl, q3⟩
  · have hcs : cs = [] := List.eq_nil_of_length_eq_zero (by rw [h2]; simp)
    subst hcs
    by_cases hm : m = 0
    · subst hm
      have : ys = [] := List.eq_nil_of_length_eq_zero (by rw [hyl]; simp)
      subst this
      exact ⟨.nilS, T, by simp, ⟨h1, by simp, .inl ⟨rfl, rfl⟩⟩, fun i o ho _ => ho, fun i hi => .inl hi⟩
    · refine ⟨.sl T.length 0 m sz, T ++ [.cells ys], by simp only [hm, if_false]; rw [if_pos (by simpa using hb)], ⟨prefix_app h1 _, by simp [hyl], .inr ⟨T.length, hp, by simp, by simp⟩⟩, fun i o ho _ => get_old ho _, fun i hi => ?_⟩
      simp [topIds] at hi; omega
  · have e1 : (n + m) * sz = n * sz + m * sz := Nat.add_mul ..
    simp only [q3, if_true, Nat.zero_add]
    by_cases hm : (n + m) * sz ≤ cs.length
    · have hm0 : m = 0 := by
        have : m * sz = 0 := by omega
        rcases Nat.mul_eq_zero.1 this with h | h <;> omega
      subst hm0
      have : ys = [] := List.eq_nil_of_length_eq_zero (by rw [hyl]; simp)
      subst this
      rw [if_pos hm]
      have hlen : id < T.length := (List.getElem?_eq_some_iff.1 q3).1
      refine ⟨_, _, rfl, ⟨prefix_set h1 q1 _, by simp [h2], .inr ⟨id, q1, by simp, ?_⟩⟩, fun i o ho hi => ?_, fun i hi => .inl (by simpa [topIds] using hi)⟩
      · rw [List.getElem?_set_self hlen]; simp
      · rw [List.getElem?_set_ne (fun e => hi (by simp [topIds, e]))]; exact ho
    · rw [if_neg hm, if_pos ⟨by omega, hb⟩]
      refine ⟨_, _, rfl, ⟨prefix_app (prefix_set h1 q1 _) _, by simp [h2, hyl, e1], .inr ⟨T.length, hp, rfl, ?_⟩⟩, fun i o ho hi => ?_, fun i hi => .inr ?_⟩
      · have : (T.set id .dead).length = T.length := by simp
        rw [← this, List.getElem?_concat_length]; simp
      · apply get_old; rw [List.getElem?_set_ne (fun e => hi (by simp [topIds, e]))]; exact ho
      · simp [topIds] at hi; omega

section
variable {α : Type} [Rec α]
theorem OwnL.app {S0 T : Store} {x y : AV} {l m : List α} {sz bytes : Nat} (h : OwnL S0 T x l) (hs : sz = Rec.sz α) (hy : elems T sz y = some (cl m, m.length)) (hb : (l.length + m.length) * bytes ≤ 140737488355328)
    {K : AV → Store → Prop} {d : Dm K} (k : ∀ x' T', OwnL S0 T' x' (l ++ m) → Keep S0 T T' x → (∀ i, i ∈ topIds x' → i ∈ topIds x ∨ T.length ≤ i) → K x' T') : thn (appA T sz bytes x y) K d := by
  subst hs
  obtain ⟨x', T', h1, h2, h3, h4⟩ := Own.app h Rec.pos hy (cl_len m) hb
  rw [h1, thn_some]
  refine k x' T' ?_ h3 h4
  simpa [OwnL, cl_append] using h2
/-- an own row reads as its list -/
theorem OwnL.rd {S0 T : Store} {x : AV} {l : List α} (h : OwnL S0 T x l) : rdS T x = some (enc l) := by
  obtain ⟨h1, h2, ⟨rfl, h3⟩ | ⟨id, q1, rfl, q3⟩⟩ := h
  · have : l = [] := List.eq_nil_of_length_eq_zero h3
    subst this; rfl
  · simp only [rdS, q3, Nat.zero_add]
    rw [if_pos (by rw [h2]; exact Nat.le_refl _), List.drop_zero, List.take_of_length_le (by rw [h2]; exact Nat.le_refl _), show rd0L (cl l) = some (cl l) from cl_pure l]; rfl
theorem OwnL.ids {S0 T : Store} {x : AV} {l : List α} (h : OwnL S0 T x l) : ∀ i, i ∈ topIds x → S0.length ≤ i := by
  obtain ⟨h1, h2, ⟨rfl, h3⟩ | ⟨id, q1, rfl, q3⟩⟩ := h
  · intro i hi; simp [topIds] at hi
  · intro i hi; simp [topIds] at hi; omega
theorem OwnL.el {S0 T : Store} {x : AV} {l : List α} (h : OwnL S0 T x l) {sz : Nat} (hs : sz = Rec.sz α) : elems T sz x = some (cl l, l.length) := by
  subst hs
  obtain ⟨h1, h2, ⟨rfl, h3⟩ | ⟨id, q1, rfl, q3⟩⟩ := h
  · have : l = [] := List.eq_nil_of_length_eq_zero h3
    subst this; rfl
  · simp only [elems, q3, Nat.zero_add, true_and]
    rw [if_pos (by rw [h2]; exact Nat.le_refl _), List.drop_zero, List.take_of_length_le (by rw [h2]; exact Nat.le_refl _)]
theorem OwnL.keep {S0 T T' : Store} {x z : AV} {l : List α} (h : OwnL S0 T x l) (hp : S0 <+: T') (hk : Keep S0 T T' z) (hd : ∀ i, i ∈ topIds x → i ∉ topIds z) : OwnL S0 T' x l := by
  obtain ⟨h1, h2, h3⟩ := h
  refine ⟨hp, h2, h3.imp (fun h => h) ?_⟩
  rintro ⟨id, q1, rfl, q3⟩
  exact ⟨id, q1, rfl, hk id _ q3 (hd id (by simp [topIds]))⟩
/-- an own row as an answer -/
theorem OwnL.conv {S0 T : Store} {x : AV} {l : List α} (h : OwnL S0 T x l) : Conv S0 T x S0 (enc l) := Conv.good h.1 h.ids h.rd
end

/-! ### loops -/
theorem w_blkseq {E : Env} {g : Frame} {S : Store} {Q : AExit → Frame → Store → Prop} {q : Dm Q} (i : Nat) (a b : ACode) : wpC E (.block i (.seq a b)) g S Q q = wpC E (.seq a b) g S (blkK i Q) .mk := w_block i _
theorem w_blkreg {E : Env} {g : Frame} {S : Store} {Q : AExit → Frame → Store → Prop} {q : Dm Q} (i : Nat) (a : List AIns) (b : List (Nat × Nat)) : wpC E (.block i (.region a b)) g S Q q = wpC E (.region a b) g S (blkK i Q) .mk := w_block i _
theorem w_blkcond {E : Env} {g : Frame} {S : Store} {Q : AExit → Frame → Store → Prop} {q : Dm Q} (i : Nat) (c : AX) (a b : ACode) : wpC E (.block i (.cond c a b)) g S Q q = wpC E (.cond c a b) g S (blkK i Q) .mk := w_block i _
theorem w_blkblk {E : Env} {g : Frame} {S : Store} {Q : AExit → Frame → Store → Prop} {q : Dm Q} (i j : Nat) (c : ACode) : wpC E (.block i (.block j c)) g S Q q = wpC E (.block j c) g S (blkK i Q) .mk := w_block i _
theorem w_blkskip {E : Env} {g : Frame} {S : Store} {Q : AExit → Frame → Store → Prop} {q : Dm Q} (i : Nat) : wpC E (.block i .skip) g S Q q = blkK i Q .normal g S := by rw [w_block, w_skip]
theorem w_blkret {E : Env} {g : Frame} {S : Store} {Q : AExit → Frame → Store → Prop} {q : Dm Q} (i : Nat) : wpC E (.block i .ret) g S Q q = blkK i Q .ret g S := by rw [w_block, w_ret]
theorem w_blkexit {E : Env} {g : Frame} {S : Store} {Q : AExit → Frame → Store → Prop} {q : Dm Q} (i j : Nat) : wpC E (.block i (.exit j)) g S Q q = blkK i Q (.exit j) g S := by rw [w_block, w_exit]

/-- a loop in its block, by an invariant that tells what is left -/
theorem Ex.while {E : Env} {b : Nat} {c : ACode} {g : Frame} {S : Store} {Q : AExit → Frame → Store → Prop} {q : Dm Q} (I : Nat → Frame → Store → Prop) (k : Nat) (h0 : I k g S)
    (step : ∀ k g S, I k g S → wpC E c g S (fun ex g' S' => match ex with | .normal => ∃ k', k' < k ∧ I k' g' S' | ex => blkK b Q ex g' S') .mk) : wpC E (.block b (.loop c)) g S Q q := by
  rw [w_block, w_loop]
  exact Ex.loop I (fun k g S h => step k g S h) k g S h0

/-- the end of a round -/
def rndK (b0 b1 vi vn n i : Nat) (I : Nat → Frame → Store → Prop) (Q : AExit → Frame → Store → Prop) : AExit → Frame → Store → Prop := fun ex g T => match ex with
  | .normal => g vi = .int .i64 i ∧ g vn = .int .i64 n ∧ I (i + 1) (upd g vi (.int .i64 ((i + 1 : Nat) : Int))) T
  | .exit b => if b = b1 then g vi = .int .i64 i ∧ g vn = .int .i64 n ∧ I (i + 1) (upd g vi (.int .i64 ((i + 1 : Nat) : Int))) T else if b = b0 then Q .normal g T else Q (.exit b) g T
  | .ret => Q .ret g T
section
variable {b0 b1 vi vn n i : Nat} {I : Nat → Frame → Store → Prop} {Q : AExit → Frame → Store → Prop} {g : Frame} {T : Store}
theorem rnd_n : rndK b0 b1 vi vn n i I Q .normal g T = (g vi = .int .i64 i ∧ g vn = .int .i64 n ∧ I (i + 1) (upd g vi (.int .i64 ((i + 1 : Nat) : Int))) T) := propext ⟨fun h => h, fun h => h⟩
theorem rnd_r : rndK b0 b1 vi vn n i I Q .ret g T = Q .ret g T := propext ⟨fun h => h, fun h => h⟩
theorem rnd_e (b : Nat) : rndK b0 b1 vi vn n i I Q (.exit b) g T = if b = b1 then (g vi = .int .i64 i ∧ g vn = .int .i64 n ∧ I (i + 1) (upd g vi (.int .i64 ((i + 1 : Nat) : Int))) T) else if b = b0 then Q .normal g T else Q (.exit b) g T := propext ⟨fun h => h, fun h => h⟩
end

/-- the code of 'for i := range n' -/
@[reducible] def rngC (b0 b1 vi vc vn : Nat) (body : ACode) : ACode :=
  .block b0 (.loop (.seq (.region [⟨some vc, .bin .lss (.v vi) (.v vn), none⟩] []) (.seq (.cond (.v vc) .skip (.exit b0)) (.seq (.block b1 body) (.region [⟨none, .bin .add (.v vi) (.k (.int .i64 1)), none⟩, ⟨some vi, .mv (.l 0), none⟩] [])))))

theorem Ex.range {E : Env} {b0 b1 vi vc vn : Nat} {body : ACode} {g : Frame} {S : Store} {Q : AExit → Frame → Store → Prop} {q : Dm Q} {n : Nat} (I : Nat → Frame → Store → Prop)
    (hv : vi ≠ vc ∧ vn ≠ vc ∧ vi ≠ vn ∧ b0 ≠ b1) (hn : n ≤ 9223372036854775807) (hi : g vi = .int .i64 0) (hnn : g vn = .int .i64 n) (h0 : I 0 g S)
    (step : ∀ i g T, i < n → g vi = .int .i64 (i : Int) → g vn = .int .i64 n → I i g T → wpC E body (upd g vc (.bool true)) T (rndK b0 b1 vi vn n i I Q) .mk)
    (done : ∀ g T, g vi = .int .i64 n → I n g T → Q .normal (upd g vc (.bool false)) T) : wpC E (rngC b0 b1 vi vc vn body) g S Q q := by
  obtain ⟨h1, h2, h3, h4⟩ := hv
  refine Ex.while (fun k g T => ∃ i : Nat, k = n - i ∧ i ≤ n ∧ g vi = .int .i64 i ∧ g vn = .int .i64 n ∧ I i g T) n ⟨0, rfl, by omega, hi, hnn, h0⟩ ?_
  rintro k g T ⟨i, rfl, hin, hgi, hgn, hI⟩
  rw [w_seq, w_reg, i_sn, o_bin]
  simp only [ev_v, hgi, hgn, b_lss, thnV_some, insKt_eq, i_nil, seqK_n]
  by_cases hlt : i < n
  · have e : decide ((i : Int) < (n : Int)) = true := by simp [hlt]
    rw [e, w_seq, w_cond]
    simp only [ev_v, upd_apply, if_true, ifV_bool', cnd_true', w_skip, seqK_n]
    rw [w_seq, w_block]
    have hs := step i g T hlt hgi hgn hI
    have key : ∀ g' T', (g' vi = .int .i64 i ∧ g' vn = .int .i64 n ∧ I (i + 1) (upd g' vi (.int .i64 ((i + 1 : Nat) : Int))) T') →
        wpC E (.region [⟨none, .bin .add (.v vi) (.k (.int .i64 1)), none⟩, ⟨some vi, .mv (.l 0), none⟩] []) g' T' (fun ex g'' S' => match ex with | .normal => ∃ k', k' < n - i ∧ ∃ j : Nat, k' = n - j ∧ j ≤ n ∧ g'' vi = .int .i64 j ∧ g'' vn = .int .i64 n ∧ I j g'' S' | ex => blkK b0 Q ex g'' S') .mk := fun g' T' ⟨a1, a2, a3⟩ => by
      rw [w_reg, i_nn, o_bin]
      simp only [ev_v, ev_k, a1, b_add, thnV_some, insK_eq, List.nil_append]
      rw [i_sn, o_mv]
      simp only [ev_l, g0, insKt_eq, i_nil]
      rw [wrap64 (by omega) (by omega)]
      have e1 : ((i : Int) + 1) = ((i + 1 : Nat) : Int) := by omega
      rw [e1]
      exact ⟨_, (by omega : n - (i + 1) < n - i), i + 1, rfl, by omega, by simp [upd_apply], by simp [upd_apply, Ne.symm h3, a2], a3⟩
    have mono : ∀ {c : ACode} {g : Frame} {S : Store} {Q1 Q2 : AExit → Frame → Store → Prop}, wpC E c g S Q1 .mk → (∀ ex g S, Q1 ex g S → Q2 ex g S) → wpC E c g S Q2 .mk := fun {c} {g} {S} {Q1} {Q2} h hq => by
      exact wpC_mono h hq
    refine mono hs fun ex g' T' hk => ?_
    cases ex with
    | normal => rw [blkK_n, seqK_n]; exact key g' T' hk
    | exit b =>
      rw [rnd_e] at hk
      rw [blkK_e]
      by_cases hb : b = b1
      · rw [if_pos hb] at hk ⊢; rw [seqK_n]; exact key g' T' hk
      · rw [if_neg hb] at hk ⊢; rw [seqK_e]
        simp only [blkK_e]
        by_cases hb0 : b = b0
        · rw [if_pos hb0] at hk ⊢; exact hk
        · rw [if_neg hb0] at hk ⊢; exact hk
    | ret => rw [blkK_r, seqK_r]; exact hk
  · have e : decide ((i : Int) < (n : Int)) = false := by simp; omega
    rw [e, w_seq, w_cond]
    simp only [ev_v, upd_apply, if_true, ifV_bool', cnd_false', w_exit, seqK_e]
    have : i = n := by omega
    subst this
    rw [blkK_e, if_pos rfl]
    exact done g T hgi hI

end Go.Proofs.Ytmijfhepagobdaa.Avm
