/- Specs: names, searches, right lists. -/
import Derived.Test.YtmijfhepagobdaaS1
set_option linter.unusedVariables false
set_option linter.unusedSimpArgs false
namespace Go.Proofs.Ytmijfhepagobdaa.Avm

theorem take_all {α : Type} {p : α → Bool} {l : List α} {i : Nat} (hi : i < l.length) (h : (l.take i).all p = true) (hp : p l[i] = true) : (l.take (i + 1)).all p = true := by
  rw [List.take_succ_eq_append_getElem hi, List.all_append, h]; simp [hp]
theorem all_bad {α : Type} {p : α → Bool} {l : List α} {i : Nat} (hi : i < l.length) (hp : p l[i] = false) : l.all p = false := by
  rw [List.all_eq_false]; exact ⟨_, List.getElem_mem hi, by simp [hp]⟩

theorem ok_name {E : Env} (hp : E.prim 32 = none) (hf : E.F 32 = some F32) : OkS E 32 e_name (gd k_name r_name) := by
  refine OkS.code hp hf (fun _ => rfl) fun s hk => ?_
  have hk : s.length ≤ 9223372036854775807 := hk
  simp -dsimp only [go_sem, F32, e_name]
  refine Ex.range (n := s.length) (fun i g T => g 0 = .str s ∧ (s.take i).all nameCh = true) (by decide) (by omega) rfl rfl ⟨rfl, rfl⟩ ?_ ?_
  · rintro i g T hi gi gn ⟨g0, hA⟩
    have hg := sidx_at .i64 (List.getElem?_eq_getElem hi)
    simp -dsimp only [go_sem, gi, gn, g0, hg]
    iterate 4 (all_goals try (refine cnd_intro (fun h => ?_) (fun h => ?_) <;> (try simp only [decide_eq_true_eq, decide_eq_false_iff_not, Bool.not_eq_true', Bool.not_eq_false', Bool.and_eq_true, Bool.or_eq_true, Bool.and_eq_false_iff, Bool.or_eq_false_iff, beq_iff_eq, beq_eq_false_iff_ne, ne_eq, Bool.not_eq_true, Bool.not_eq_false] at h) <;> simp -dsimp only [go_sem, *, gi, gn, g0, F32, r_name]))
    all_goals first
      | (refine congrArg AV.bool ?_; simp only [nameOk, all_bad hi (show nameCh s[i] = false by simp only [nameCh, decide_eq_false_iff_not]; omega), Bool.false_and])
      | exact take_all hi hA (by simp only [nameCh, decide_eq_true_eq]; omega)
  · rintro g T gi ⟨g0, hA⟩
    rw [List.take_length] at hA
    simp -dsimp only [go_sem, g0, F32, r_name]
    (refine cnd_intro (fun h => ?_) (fun h => ?_) <;> (try simp only [decide_eq_true_eq, decide_eq_false_iff_not, Bool.not_eq_true', Bool.not_eq_false', Bool.and_eq_true, Bool.or_eq_true, Bool.and_eq_false_iff, Bool.or_eq_false_iff, beq_iff_eq, beq_eq_false_iff_ne, ne_eq, Bool.not_eq_true, Bool.not_eq_false] at h) <;> simp -dsimp only [go_sem, *, g0, F32, r_name, nameOk])
    all_goals
      refine congrArg AV.bool ?_
      simp only [nameOk, hA, Bool.true_and]
      first
        | exact (decide_eq_false (by omega)).symm
        | exact decide_eq_decide.2 (by omega)

theorem ok_nameR {E : Env} (hp : E.prim 40 = none) (hf : E.F 40 = some F40) : OkS E 40 e_nameR (gd k_nameR r_nameR) := by
  refine OkS.code hp hf (fun _ => rfl) fun s hk => ?_
  have hk : s.length ≤ 9223372036854775807 := hk
  simp -dsimp only [go_sem, F40, e_nameR]
  iterate 3 (all_goals try (refine cnd_intro (fun h => ?_) (fun h => ?_) <;> (try simp only [decide_eq_true_eq, decide_eq_false_iff_not, Bool.not_eq_true', Bool.not_eq_false', Bool.and_eq_true, Bool.or_eq_true, Bool.and_eq_false_iff, Bool.or_eq_false_iff, beq_iff_eq, beq_eq_false_iff_ne, ne_eq, Bool.not_eq_true, Bool.not_eq_false] at h) <;> simp -dsimp only [go_sem, *, F40, r_nameR]))
  all_goals first
    | (refine congrArg AV.bool ?_; simp only [nameOk, show decide (1 ≤ s.length ∧ s.length ≤ 12) = false from decide_eq_false (by omega), Bool.and_false]; done)
    | skip
  refine Ex.count (n := s.length) (i0 := 0) (fun i g T => g 0 = .str s ∧ (s.take i).all nameCh = true) (by decide) (by omega) rfl (by omega) ⟨rfl, rfl⟩ ?_ ?_ ?_
  · rintro i g T hi gi ⟨g0, hA⟩
    simp -dsimp only [go_sem, gi, g0]
  · rintro i g T hi gi ⟨g0, hA⟩
    have hg := sidx_at .i64 (List.getElem?_eq_getElem hi)
    simp -dsimp only [go_sem, gi, g0, hg]
    iterate 5 (all_goals try (refine cnd_intro (fun h => ?_) (fun h => ?_) <;> (try simp only [decide_eq_true_eq, decide_eq_false_iff_not, Bool.not_eq_true', Bool.not_eq_false', Bool.and_eq_true, Bool.or_eq_true, Bool.and_eq_false_iff, Bool.or_eq_false_iff, beq_iff_eq, beq_eq_false_iff_ne, ne_eq, Bool.not_eq_true, Bool.not_eq_false] at h) <;> simp -dsimp only [go_sem, *, gi, g0, F40, r_nameR]))
    all_goals first
      | (refine congrArg AV.bool ?_; simp only [nameOk, all_bad hi (show nameCh s[i] = false by simp only [nameCh, decide_eq_false_iff_not]; omega), Bool.false_and]; done)
      | exact take_all hi hA (by simp only [nameCh, decide_eq_true_eq]; omega)
  · rintro g T gi ⟨g0, hA⟩
    rw [List.take_length] at hA
    simp -dsimp only [go_sem, g0, F40, r_nameR]
    refine congrArg AV.bool ?_
    simp only [nameOk, hA, Bool.true_and]
    exact (decide_eq_true (by omega)).symm

theorem ok_max {E : Env} (hp : E.prim 65 = none) (hf : E.F 65 = some F65) : OkS E 65 e_max (gd k_max r_max) := by
  refine OkS.code hp hf (fun _ => rfl) fun l ⟨h0, hk⟩ => ?_
  cases l with
  | nil => exact absurd rfl h0
  | cons a l =>
    simp -dsimp only [go_sem, F65, e_max]
    refine cnd_intro (fun h => ?_) (fun h => ?_) <;> simp only [decide_eq_true_eq, decide_eq_false_iff_not] at h
    · omega
    · have hz : (0 : Nat) < (a :: l).length := by simp
      have i0 := ia_enc (sz := 1) .i64 hz rfl
      simp only [Int.natCast_zero] at i0
      simp -dsimp only [go_sem, F65, i0]
      refine Ex.count (n := l.length + 1) (i0 := 1) (fun i g T => g 0 = enc (a :: l) ∧ 1 ≤ i ∧ g 3 = .int .i64 ((l.take (i - 1)).foldl (fun x y => if y > x then y else x) a)) (by decide) (by simp at hk; omega) rfl (by omega) ⟨rfl, by omega, rfl⟩ ?_ ?_ ?_
      · rintro i g T hi gi ⟨g0, h1, h3⟩
        simp -dsimp only [go_sem, gi, g0]
      · rintro i g T hi gi ⟨g0, h1, h3⟩
        simp -dsimp only [go_sem, gi, g0, h3, ia_enc .i64 (l := a :: l) hi]
        obtain ⟨j, rfl⟩ : ∃ j, i = j + 1 := ⟨i - 1, by omega⟩
        have hj : j < l.length := by omega
        simp only [Nat.add_sub_cancel, List.getElem_cons_succ, List.take_succ_eq_append_getElem hj, List.foldl_append, List.foldl_cons, List.foldl_nil]
      · rintro g T gi ⟨g0, h1, h3⟩
        simp -dsimp only [go_sem, g0, h3, F65, r_max]
        simp only [Nat.add_sub_cancel, List.take_length, maxP]

/-- a search by a function that answers just so, whatever is there -/
theorem run_index {E : Env} (hp : E.prim 53 = none) (hf : E.F 53 = some F53) (l : List Mem) (hk : l.length ≤ 1000000) (f : Nat) (cap : List AV) (p : Mem → Bool) (S : Store)
    (hc : ∀ m T, S <+: T → Sp E f (AV.agg (Rec.c m) :: cap) T fun v T' => v = .bool (p m) ∧ S <+: T') : Sp E 53 [enc l, .fn f cap] S fun v T => v = .int .i64 (idxP p 0 l) ∧ S <+: T := by
  refine Sp.intro hp hf rfl ?_
  simp -dsimp only [go_sem, F53]
  refine Ex.range (n := l.length) (fun i g T => g 0 = enc l ∧ g 1 = .fn f cap ∧ S <+: T ∧ idxP p 0 l = idxP p i (l.drop i)) (by decide) (by omega) rfl rfl ⟨rfl, rfl, List.prefix_rfl, by simp⟩ ?_ ?_
  · rintro i g T hi gi gn ⟨g0, g1, hS, hI⟩
    rw [List.drop_eq_getElem_cons hi] at hI
    simp -dsimp only [go_sem, gi, gn, g0, g1, ia_enc .i64 hi, ld_enc]
    refine Sp.ofD (hc l[i] T hS) ?_
    rintro v T' ⟨rfl, hT⟩
    simp -dsimp only [go_sem, gi, gn, g0, g1]
    (refine cnd_intro (fun h => ?_) (fun h => ?_) <;> (try simp only [decide_eq_true_eq, decide_eq_false_iff_not, Bool.not_eq_true', Bool.not_eq_false', Bool.and_eq_true, Bool.or_eq_true, Bool.and_eq_false_iff, Bool.or_eq_false_iff, beq_iff_eq, beq_eq_false_iff_ne, ne_eq, Bool.not_eq_true, Bool.not_eq_false] at h) <;> simp -dsimp only [go_sem, *, gi, gn, g0, g1, F53])
    · simp only [hI, idxP, h, if_true, and_true, hT]
    · simp only [hI, idxP, h, hT, true_and]; simp
  · rintro g T gi ⟨g0, g1, hS, hI⟩
    simp -dsimp only [go_sem, F53]
    exact ⟨by rw [hI]; simp [idxP], hS⟩

theorem ok_at {E : Env} (hp : E.prim 37 = none) (hf : E.F 37 = some F37) (hp1 : E.prim 54 = none) (hf1 : E.F 54 = some F54) (hp2 : E.prim 53 = none) (hf2 : E.F 53 = some F53) :
    OkS E 37 e_at (gd k_at r_at) := by
  refine OkS.code hp hf (fun _ => rfl) fun ⟨l, n⟩ hk => ?_
  simp -dsimp only [go_sem, F37, e_at]
  refine Sp.ofD (run_index hp2 hf2 l hk _ _ (fun m => decide (m.name = n)) _ fun m T hT => ?_) ?_
  · have h0 := prefix_get hT (i := 0) rfl
    refine Sp.intro hp1 hf1 rfl ?_
    simp -dsimp only [go_sem, F54, c_mem, get_old h0]
    exact prefix_app hT _
  · rintro v T' ⟨rfl, hT⟩
    simp -dsimp only [go_sem, F37, r_at, atP]

/-! right lists -/
theorem okFrom_iff : ∀ (p : Option Str) (l : List Mem), okFrom p l = true ↔ (∀ m, m ∈ l → nameOk m.name = true ∧ isRole m.role = true) ∧ (l.map (·.name)).Pairwise (fun a b => Op.bytesLess a b = true) ∧ ∀ q, p = some q → ∀ m, m ∈ l → Op.bytesLess q m.name = true
  | p, [] => by simp [okFrom]
  | p, m :: l => by
    have ih := okFrom_iff (some m.name) l
    simp only [okFrom, Bool.and_eq_true, ih, List.map_cons, List.pairwise_cons, List.mem_cons, forall_eq_or_imp, List.mem_map, forall_exists_index, and_imp, forall_apply_eq_imp_iff₂, Option.some.injEq, forall_eq']
    constructor
    · rintro ⟨⟨⟨h1, h2⟩, h3⟩, h4, h5, h6⟩
      refine ⟨⟨⟨h1, h2⟩, h4⟩, ⟨h6, h5⟩, fun q hq => ?_⟩
      subst hq
      exact ⟨h3, fun m' hm => bl_trans _ _ _ h3 (h6 m' hm)⟩
    · rintro ⟨⟨⟨h1, h2⟩, h4⟩, ⟨h6, h5⟩, h7⟩
      refine ⟨⟨⟨h1, h2⟩, ?_⟩, h4, h5, h6⟩
      cases p with
      | none => rfl
      | some q => exact (h7 q rfl).1

theorem okFrom_take : ∀ (p : Option Str) (l : List Mem) (i : Nat) (h : i < l.length), okFrom p (l.take (i + 1)) = (okFrom p (l.take i) && (nameOk l[i].name && isRole l[i].role && ltO (if i = 0 then p else some (l[i - 1]'(by omega)).name) l[i].name))
  | p, m :: l, 0, h => by simp [okFrom]
  | p, m :: l, i + 1, h => by
    have := okFrom_take (some m.name) l i (by simpa using h)
    simp only [List.take_succ_cons, okFrom, this, List.getElem_cons_succ, Nat.add_one_ne_zero, if_false, Nat.add_sub_cancel]
    cases i with
    | zero => simp [Bool.and_assoc]
    | succ i => simp [Bool.and_assoc]
theorem okFrom_mono (p : Option Str) (l : List Mem) (i : Nat) (h : okFrom p (l.take i) = false) : okFrom p l = false := by
  cases hh : okFrom p l with
  | false => rfl
  | true =>
    rw [okFrom_iff] at hh
    have : okFrom p (l.take i) = true := (okFrom_iff p _).2 ⟨fun m hm => hh.1 m (List.mem_of_mem_take hm), by rw [List.map_take]; exact hh.2.1.sublist (List.take_sublist _ _), fun q hq m hm => hh.2.2 q hq m (List.mem_of_mem_take hm)⟩
    rw [this] at h; cases h

theorem ok_right {E : Env} (hp : E.prim 33 = none) (hf : E.F 33 = some F33) (h1 : E.prim 32 = some fun _ => p_name) (h2 : E.prim 48 = some fun _ => p_is) (h3 : E.prim 49 = some fun _ => p_owners) :
    OkS E 33 e_right (gd k_right r_right) := by
  refine OkS.code hp hf (fun _ => rfl) fun l ⟨hk, hn⟩ => ?_
  simp -dsimp only [go_sem, F33, e_right]
  refine Ex.range (n := l.length) (fun i g T => g 0 = enc l ∧ g 5 = enc l ∧ okFrom none (l.take i) = true) (by decide) (by omega) rfl rfl ⟨rfl, rfl, rfl⟩ ?_ ?_
  · rintro i g T hi gi gn ⟨g0, g5, hI⟩
    have hs := okFrom_take none l i hi
    rw [hI, Bool.true_and] at hs
    have bad : okFrom none (l.take (i + 1)) = false → AV.bool false = AV.bool (rightP l) := fun h => by rw [rightP, okFrom_mono none l _ h]; rfl
    simp -dsimp only [go_sem, gi, gn, g0, g5, ia_enc .i64 hi, ld_enc, c_mem, c_name h1 l[i].name (hn _ (List.getElem_mem hi))]
    (refine cnd_intro (fun h => ?_) (fun h => ?_) <;> (try simp only [decide_eq_true_eq, decide_eq_false_iff_not, Bool.not_eq_true', Bool.not_eq_false', Bool.and_eq_true, Bool.or_eq_true, Bool.and_eq_false_iff, Bool.or_eq_false_iff, beq_iff_eq, beq_eq_false_iff_ne, ne_eq, Bool.not_eq_true, Bool.not_eq_false] at h) <;> simp -dsimp only [go_sem, *, gi, gn, g0, g5, c_is h2])
    · have e1 := h
      (refine cnd_intro (fun h => ?_) (fun h => ?_) <;> (try simp only [decide_eq_true_eq, decide_eq_false_iff_not, Bool.not_eq_true', Bool.not_eq_false', Bool.and_eq_true, Bool.or_eq_true, Bool.and_eq_false_iff, Bool.or_eq_false_iff, beq_iff_eq, beq_eq_false_iff_ne, ne_eq, Bool.not_eq_true, Bool.not_eq_false] at h) <;> simp -dsimp only [go_sem, *, gi, gn, g0, g5])
      · have e2 := h
        rcases Nat.eq_zero_or_pos i with h0 | h0
        · subst h0
          simp -dsimp only [go_sem, gi, gn, g0, g5, Int.natCast_zero]
          rw [hs, e1, e2]; rfl
        · have hw : IntKind.i64.wrap ((i : Int) - 1) = ((i - 1 : Nat) : Int) := by rw [wrap64 (by omega) (by omega)]; omega
          have hlt : (0 : Int) < (i : Int) := by omega
          have hi' : i - 1 < l.length := by omega
          rw [if_neg (by omega)] at hs
          simp -dsimp only [go_sem, gi, gn, g0, g5, hlt, hw, ia_enc .i64 hi', ld_enc, c_mem]
          (refine cnd_intro (fun h => ?_) (fun h => ?_) <;> (try simp only [decide_eq_true_eq, decide_eq_false_iff_not, Bool.not_eq_true', Bool.not_eq_false', Bool.and_eq_true, Bool.or_eq_true, Bool.and_eq_false_iff, Bool.or_eq_false_iff, beq_iff_eq, beq_eq_false_iff_ne, ne_eq, Bool.not_eq_true, Bool.not_eq_false] at h) <;> simp -dsimp only [go_sem, *, gi, gn, g0, g5, F33, r_right])
          · refine bad ?_
            rw [hs, e1, e2, ltO, h]; rfl
          · exact h
      · have e2 := h
        simp -dsimp only [go_sem, gi, gn, g0, g5, F33, r_right]
        refine bad ?_
        rw [hs, e1, e2]; rfl
    · have e1 := h
      simp -dsimp only [go_sem, gi, gn, g0, g5, F33, r_right]
      refine bad ?_
      rw [hs, e1]; rfl
  · rintro g T gi ⟨g0, g5, hI⟩
    rw [List.take_length] at hI
    simp -dsimp only [go_sem, g0, F33]
    (refine cnd_intro (fun h => ?_) (fun h => ?_) <;> (try simp only [decide_eq_true_eq, decide_eq_false_iff_not, Bool.not_eq_true', Bool.not_eq_false', Bool.and_eq_true, Bool.or_eq_true, Bool.and_eq_false_iff, Bool.or_eq_false_iff, beq_iff_eq, beq_eq_false_iff_ne, ne_eq, Bool.not_eq_true, Bool.not_eq_false] at h) <;> simp -dsimp only [go_sem, *, g0, F33, c_owners h3 l hk])
    · simp only [r_right, rightP, hI, Bool.true_and]
      congr 1
      rw [show decide (l.length ≤ 8) = true from decide_eq_true (by omega), Bool.true_and]
      exact decide_eq_decide.2 (by omega)
    · simp only [r_right, rightP, hI, Bool.true_and]
      rw [show decide (l.length ≤ 8) = false from decide_eq_false (by omega)]; rfl
end Go.Proofs.Ytmijfhepagobdaa.Avm
