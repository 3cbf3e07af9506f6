/- Specs: roles, names. -/
import Derived.Test.YtmijfhepagobdaaD1
import Derived.Test.YtmijfhepagobdaaRF
set_option linter.unusedVariables false
set_option linter.unusedSimpArgs false
namespace Go.Proofs.Ytmijfhepagobdaa.Avm

theorem ok_is {E : Env} (hp : E.prim 48 = none) (hf : E.F 48 = some F48) : OkS E 48 e_is (gd k_is r_is) := by
  refine OkS.code hp hf (fun _ => rfl) fun r _ => ?_
  simp -dsimp only [go_sem, F48, e_is, r_is]
  (refine cnd_intro (fun h => ?_) (fun h => ?_) <;> (try simp only [decide_eq_true_eq, decide_eq_false_iff_not, Bool.not_eq_true', Bool.not_eq_false', Bool.and_eq_true, Bool.or_eq_true, Bool.and_eq_false_iff, Bool.or_eq_false_iff, beq_iff_eq, beq_eq_false_iff_ne, ne_eq, Bool.not_eq_true, Bool.not_eq_false] at h) <;> simp -dsimp only [go_sem, *, F48])
  · simp only [r_is, isRole, h, true_and]
  · simp only [r_is, isRole, h, false_and, decide_false]

theorem idx_range {α : Type} (p : α → Bool) : ∀ (l : List α) (i : Nat), (idxP p i l = -1 ∧ ∀ m, m ∈ l → p m = false) ∨ ∃ j : Nat, ∃ h : j < l.length, idxP p i l = (i + j : Nat) ∧ p l[j] = true ∧ ∀ k, (hk : k < j) → p (l[k]'(by omega)) = false
  | [], i => .inl ⟨rfl, by simp⟩
  | m :: l, i => by
    by_cases h : p m = true
    · exact .inr ⟨0, by simp, by simp [idxP, h], by simpa using h, by simp⟩
    · have h : p m = false := by simpa using h
      rcases idx_range p l (i + 1) with ⟨h1, h2⟩ | ⟨j, h1, h2, h3, h4⟩
      · refine .inl ⟨by simp [idxP, h, h1], fun m' hm => ?_⟩
        cases hm with
        | head => exact h
        | tail _ hm => exact h2 m' hm
      · refine .inr ⟨j + 1, by simp; omega, by simp [idxP, h, h2]; omega, by simpa using h3, fun k hk => ?_⟩
        cases k with
        | zero => exact h
        | succ k => simpa using h4 k (by omega)
theorem of_none : ∀ (l : List Mem) (n : Str), (∀ m, m ∈ l → decide (m.name = n) = false) → ofP l n = 0
  | [], n, _ => rfl
  | m :: l, n, h => by
    have h1 := h m (.head _)
    simp only [decide_eq_false_iff_not] at h1
    simp only [ofP, h1, if_false]; exact of_none l n fun m' hm => h m' (.tail _ hm)
theorem of_some : ∀ (l : List Mem) (n : Str) (j : Nat) (h : j < l.length), l[j].name = n → (∀ k, (hk : k < j) → decide ((l[k]'(by omega)).name = n) = false) → ofP l n = l[j].role
  | m :: l, n, 0, h, h1, _ => by simp only [List.getElem_cons_zero] at h1; simp [ofP, h1]
  | m :: l, n, j + 1, h, h1, h2 => by
    have := h2 0 (by omega)
    simp only [List.getElem_cons_zero, decide_eq_false_iff_not] at this
    simp only [ofP, this, if_false, List.getElem_cons_succ]
    exact of_some l n j (by simpa using h) (by simpa using h1) fun k hk => by simpa using h2 (k + 1) (by omega)
theorem atP_spec (l : List Mem) (name : Str) : (atP l name = -1 ∧ ofP l name = 0 ∧ ∀ m, m ∈ l → m.name ≠ name) ∨ ∃ j : Nat, ∃ h : j < l.length, atP l name = j ∧ ofP l name = l[j].role ∧ l[j].name = name ∧ ∀ k, (hk : k < j) → (l[k]'(by omega)).name ≠ name := by
  rcases idx_range (fun m : Mem => decide (m.name = name)) l 0 with ⟨h1, h2⟩ | ⟨j, h1, h2, h3, h4⟩
  · exact .inl ⟨h1, of_none l name h2, fun m hm => by simpa using h2 m hm⟩
  · have h3 : l[j].name = name := by simpa using h3
    exact .inr ⟨j, h1, by simpa [atP] using h2, of_some l name j h1 h3 h4, h3, fun k hk => by simpa using h4 k hk⟩

theorem ok_of {E : Env} (hp : E.prim 34 = none) (hf : E.F 34 = some F34) (h1 : E.prim 37 = some fun _ => p_at) : OkS E 34 e_of (gd k_of r_of) := by
  refine OkS.code hp hf (fun _ => rfl) fun ⟨l, n⟩ hk => ?_
  simp -dsimp only [go_sem, F34, e_of, r_of, c_at h1 l n hk]
  rcases atP_spec l n with ⟨q1, q2, _⟩ | ⟨j, hj, q1, q2, _⟩
  · rw [q1]
    simp -dsimp only [go_sem, F34, r_of, q2]
  · rw [q1]
    simp -dsimp only [go_sem, F34, r_of, q2, ia_enc .i64 hj, c_mem]

theorem withP_succ {l : List Mem} {i : Nat} (hi : i < l.length) (n : Int) : withP (l.take (i + 1)) n = if n ≤ l[i].role then withP (l.take i) n ++ [l[i].name] else withP (l.take i) n := by
  rw [List.take_succ_eq_append_getElem hi]
  simp only [withP, List.filter_append, List.map_append]
  split <;> simp_all [List.filter_cons]
theorem withP_len (l : List Mem) (n : Int) : (withP l n).length ≤ l.length := by
  simp only [withP, List.length_map]; exact List.length_filter_le _ _

theorem ok_with {E : Env} (hp : E.prim 64 = none) (hf : E.F 64 = some F64) : OkG E 64 e_with (gd k_with r_with) := by
  refine OkG.code hp hf (fun _ => rfl) fun ⟨l, n⟩ S hk => ?_
  have hk : l.length ≤ 1000000 := hk
  simp -dsimp only [go_sem, F64, e_with, r_with]
  refine Ex.range (n := l.length) (fun i g T => g 8 = enc l ∧ g 1 = .int .i64 n ∧ OwnL S T (g 5) (withP (l.take i) n)) (by decide) (by omega) rfl rfl ⟨rfl, rfl, OwnL.nil List.prefix_rfl⟩ ?_ ?_
  · rintro i g T hi gi gn ⟨g8, g1, hO⟩
    simp -dsimp only [go_sem, gi, gn, g8, g1, ia_enc .i64 hi, ld_enc, c_mem]
    have ht := withP_succ hi n
    refine cnd_intro (fun h => ?_) (fun h => ?_) <;> simp only [decide_eq_true_eq, decide_eq_false_iff_not] at h
    · simp -dsimp only [go_sem, gi, gn, g8, g1]
      refine OwnL.app (hO.more _) rfl (el_enc _ rfl) ?_ fun x T' hO' hK _ => ?_
      · have := withP_len (l.take i) n
        have : (l.take i).length ≤ l.length := List.length_take_le' _ _
        simp only [List.length_singleton]; omega
      · simp -dsimp only [go_sem, gi, gn, g8, g1]
        rw [ht, if_pos h]; exact hO'
    · simp -dsimp only [go_sem, gi, gn, g8, g1]
      rw [ht, if_neg h]; exact hO.more _
  · rintro g T gi ⟨g8, g1, hO⟩
    simp -dsimp only [go_sem, F64, r_with]
    rw [List.take_length] at hO
    exact hO.conv

theorem ok_owners {E : Env} (hp : E.prim 49 = none) (hf : E.F 49 = some F49) (h1 : E.prim 64 = some fun _ => p_with) : OkS E 49 e_owners (gd k_owners r_owners) := by
  refine OkS.code hp hf (fun _ => rfl) fun l hk => ?_
  simp -dsimp only [go_sem, F49, e_owners, r_owners, c_with h1 l 4 hk, ownersP]

theorem ok_isNaN {E : Env} (hp : E.prim 68 = none) (hf : E.F 68 = some F68) : OkS E 68 e_isNaN (gd k_isNaN r_isNaN) := by
  refine OkS.code hp hf (fun _ => rfl) fun s _ => ?_
  simp -dsimp only [go_sem, F68, e_isNaN, r_isNaN]

theorem ok_cmp {E : Env} (hp : E.prim 57 = none) (hf : E.F 57 = some F57) (h1 : E.prim 68 = some fun _ => p_isNaN) : OkS E 57 e_cmp (gd k_cmp r_cmp) := by
  refine OkS.code hp hf (fun _ => rfl) fun ⟨a, b⟩ _ => ?_
  simp -dsimp only [go_sem, F57, e_cmp, c_isNaN h1]
  (refine cnd_intro (fun h => ?_) (fun h => ?_) <;> (try simp only [decide_eq_true_eq, decide_eq_false_iff_not, Bool.not_eq_true', Bool.not_eq_false', Bool.and_eq_true, Bool.or_eq_true, Bool.and_eq_false_iff, Bool.or_eq_false_iff, beq_iff_eq, beq_eq_false_iff_ne, ne_eq, Bool.not_eq_true, Bool.not_eq_false] at h) <;> simp -dsimp only [go_sem, *, F57])
  · simp only [r_cmp, cmpS, h, if_true]
  · have h0 := h
    (refine cnd_intro (fun h => ?_) (fun h => ?_) <;> (try simp only [decide_eq_true_eq, decide_eq_false_iff_not, Bool.not_eq_true', Bool.not_eq_false', Bool.and_eq_true, Bool.or_eq_true, Bool.and_eq_false_iff, Bool.or_eq_false_iff, beq_iff_eq, beq_eq_false_iff_ne, ne_eq, Bool.not_eq_true, Bool.not_eq_false] at h) <;> simp -dsimp only [go_sem, *, F57])
    · have : a ≠ b := by simpa [h0] using h
      simp [r_cmp, cmpS, h0, this]
    · have : a = b := by simpa [h0] using h
      simp [r_cmp, cmpS, h0, this, bl_irrefl]

theorem ok_cmpM {E : Env} (hp : E.prim 56 = none) (hf : E.F 56 = some F56) (h1 : E.prim 57 = some fun _ => p_cmp) : OkS E 56 e_cmpM (gd k_cmpM r_cmpM) := by
  refine OkS.code hp hf (fun _ => rfl) fun ⟨a, b⟩ _ => ?_
  simp -dsimp only [go_sem, F56, e_cmpM, c_mem, c_cmp h1, r_cmpM]

theorem ok_high {E : Env} (hp : E.prim 50 = none) (hf : E.F 50 = some F50) (h1 : E.prim 65 = some fun _ => p_max) (h2 : E.prim 34 = some fun _ => p_of) : OkS E 50 e_high (gd k_high r_high) := by
  refine OkS.code hp hf (fun _ => rfl) fun ⟨l, n, r⟩ ⟨hk1, hk2, hk3⟩ => ?_
  simp -dsimp only [go_sem, F50, e_high, c_max h1 r ⟨hk2, hk3⟩]
  (refine cnd_intro (fun h => ?_) (fun h => ?_) <;> (try simp only [decide_eq_true_eq, decide_eq_false_iff_not, Bool.not_eq_true', Bool.not_eq_false', Bool.and_eq_true, Bool.or_eq_true, Bool.and_eq_false_iff, Bool.or_eq_false_iff, beq_iff_eq, beq_eq_false_iff_ne, ne_eq, Bool.not_eq_true, Bool.not_eq_false] at h) <;> simp -dsimp only [go_sem, *, F50, c_of h2 l n hk1])
  · simp only [r_high, highP, h, decide_true, Bool.true_and]
  · simp only [r_high, highP, h, decide_false, Bool.false_and]
end Go.Proofs.Ytmijfhepagobdaa.Avm
