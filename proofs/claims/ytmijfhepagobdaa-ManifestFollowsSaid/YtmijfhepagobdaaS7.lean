/- Specs: steps, and the law of steps. -/
import Derived.Test.YtmijfhepagobdaaS6
set_option linter.unusedVariables false
set_option linter.unusedSimpArgs false
namespace Go.Proofs.Ytmijfhepagobdaa.Avm

theorem differ_name {l m : List Mem} {n : Str} (h : n ∈ differP l m) : (∃ x, x ∈ l ∧ x.name = n) ∨ ∃ x, x ∈ m ∧ x.name = n := by
  simp only [differP, List.mem_append, List.mem_map, List.mem_filter] at h
  rcases h with ⟨x, h, rfl⟩ | ⟨x, h, rfl⟩
  · exact .inl ⟨x, h.1, rfl⟩
  · exact .inr ⟨x, h.1, rfl⟩

theorem head0 : ∀ {l : List Str} (h : 0 < l.length), l[0] = l.headD []
  | _ :: _, _ => rfl
theorem ok_step {E : Env} (hp : E.prim 17 = none) (hf : E.F 17 = some F17) (h1 : E.prim 33 = some fun _ => p_right) (h2 : E.prim 35 = some fun _ => p_differ)
    (h3 : E.prim 34 = some fun _ => p_of) (h4 : E.prim 37 = some fun _ => p_at) (h5 : E.prim 38 = some fun _ => p_share) (h6 : E.prim 39 = some fun _ => p_change) (h7 : E.prim 36 = some fun _ => p_revoke) :
    OkS E 17 e_step (gd k_step r_step) := by
  refine OkS.code hp hf (fun _ => rfl) fun ⟨l, m, b⟩ ⟨hk, hk2⟩ => ?_
  simp -dsimp only [go_sem, F17, e_step, c_right h1 l hk]
  (refine cnd_intro (fun h => ?_) (fun h => ?_) <;> (try simp only [decide_eq_true_eq, decide_eq_false_iff_not, Bool.not_eq_true', Bool.not_eq_false', Bool.and_eq_true, Bool.or_eq_true, Bool.and_eq_false_iff, Bool.or_eq_false_iff, beq_iff_eq, beq_eq_false_iff_ne, ne_eq, Bool.not_eq_true, Bool.not_eq_false] at h) <;> simp -dsimp only [go_sem, *, F17, c_right h1 m hk2])
  rotate_left
  · simp only [r_step, stepP, h, true_or, if_true]
  have e1 := h
  (refine cnd_intro (fun h => ?_) (fun h => ?_) <;> (try simp only [decide_eq_true_eq, decide_eq_false_iff_not, Bool.not_eq_true', Bool.not_eq_false', Bool.and_eq_true, Bool.or_eq_true, Bool.and_eq_false_iff, Bool.or_eq_false_iff, beq_iff_eq, beq_eq_false_iff_ne, ne_eq, Bool.not_eq_true, Bool.not_eq_false] at h) <;> simp -dsimp only [go_sem, *, F17, c_differ h2 l m ⟨hk.1, hk2.1⟩])
  · simp only [r_step, stepP, h, or_true, if_true]
  have e2 := h
  (refine cnd_intro (fun h => ?_) (fun h => ?_) <;> (try simp only [decide_eq_true_eq, decide_eq_false_iff_not, Bool.not_eq_true', Bool.not_eq_false', Bool.and_eq_true, Bool.or_eq_true, Bool.and_eq_false_iff, Bool.or_eq_false_iff, beq_iff_eq, beq_eq_false_iff_ne, ne_eq, Bool.not_eq_true, Bool.not_eq_false] at h) <;> simp -dsimp only [go_sem, *, F17])
  · simp only [r_step, stepP, e1, e2, Bool.true_eq_false, or_self, if_false]; rw [if_pos (by omega)]
  have e3 : (differP l m).length = 1 := by omega
  have hz : (0 : Nat) < (differP l m).length := by omega
  have i0 := ia_enc (sz := 1) .i64 hz rfl
  simp only [Int.natCast_zero] at i0
  have hn : (differP l m)[0] = (differP l m).headD [] := head0 hz
  have hlen : ((differP l m).headD []).length ≤ 9223372036854775807 := by
    rw [← hn]
    rcases differ_name (List.getElem_mem hz) with ⟨x, hx, e⟩ | ⟨x, hx, e⟩
    · rw [← e]; exact hk.2 x hx
    · rw [← e]; exact hk2.2 x hx
  have hstep : stepP l m b = (decide (ofP m ((differP l m).headD []) = 0) && decide (stepE l m b ((differP l m).headD []) = 0), stepE l m b ((differP l m).headD [])) := by
    simp only [stepP, e1, e2, e3, Bool.true_eq_false, or_self, if_false, ne_eq, not_true_eq_false]
  rw [show r_step (l, m, b) = _ from rfl]
  generalize (differP l m).headD [] = n at hn hlen hstep
  simp only [hn] at i0
  clear h hn
  simp -dsimp only [go_sem, i0, c_of h3 m n hk2.1]
  (refine cnd_intro (fun h => ?_) (fun h => ?_) <;> (try simp only [decide_eq_true_eq, decide_eq_false_iff_not, Bool.not_eq_true', Bool.not_eq_false', Bool.and_eq_true, Bool.or_eq_true, Bool.and_eq_false_iff, Bool.or_eq_false_iff, beq_iff_eq, beq_eq_false_iff_ne, ne_eq, Bool.not_eq_true, Bool.not_eq_false] at h) <;> simp -dsimp only [go_sem, *, F17, i0, c_revoke h7 l b n ⟨hk, hlen⟩])
  · simp only [r_step, hstep, stepE, h, if_true, decide_true, Bool.true_and]
  have e4 := h
  iterate 3 (all_goals try (refine cnd_intro (fun h => ?_) (fun h => ?_) <;> (try simp only [decide_eq_true_eq, decide_eq_false_iff_not, Bool.not_eq_true', Bool.not_eq_false', Bool.and_eq_true, Bool.or_eq_true, Bool.and_eq_false_iff, Bool.or_eq_false_iff, beq_iff_eq, beq_eq_false_iff_ne, ne_eq, Bool.not_eq_true, Bool.not_eq_false] at h) <;> simp -dsimp only [go_sem, *, F17, c_at h4 l n hk.1, c_share h5 l b n _ ⟨hk, hlen⟩, c_change h6 l b n _ ⟨hk, hlen⟩]))
  all_goals (simp only [r_step, hstep, stepE]; simp [*])

/-- right lists, by all that stands ahead -/
theorem right_iff (l : List Mem) : rightP l = true ↔ (∀ m, m ∈ l → nameOk m.name = true ∧ isRole m.role = true) ∧ (l.map (·.name)).Pairwise (fun a b => Op.bytesLess a b = true) ∧ l.length ≤ 8 ∧ ownersRP l ≠ 0 := by
  simp only [rightP, Bool.and_eq_true, okFrom_iff, decide_eq_true_eq, ownersP, withP, ownersRP, List.length_map]
  constructor
  · rintro ⟨⟨⟨h1, h2, _⟩, h3⟩, h4⟩
    refine ⟨h1, h2, h3, ?_⟩
    have : (l.filter fun m => decide (m.role = 4)) = l.filter fun m => decide (4 ≤ m.role) := List.filter_congr fun m hm => by
      have := (h1 m hm).2
      simp only [isRole, decide_eq_true_eq] at this
      exact decide_eq_decide.2 (by omega)
    rw [this]; omega
  · rintro ⟨h1, h2, h3, h4⟩
    refine ⟨⟨⟨h1, h2, fun q hq => by cases hq⟩, h3⟩, ?_⟩
    have : (l.filter fun m => decide (m.role = 4)) = l.filter fun m => decide (4 ≤ m.role) := List.filter_congr fun m hm => by
      have := (h1 m hm).2
      simp only [isRole, decide_eq_true_eq] at this
      exact decide_eq_decide.2 (by omega)
    rw [← this]; omega

theorem ok_rightR {E : Env} (hp : E.prim 41 = none) (hf : E.F 41 = some F41) (h1 : E.prim 58 = some fun _ => p_ownersR) (h2 : E.prim 40 = some fun _ => p_nameR) :
    OkS E 41 e_rightR (gd k_rightR r_rightR) := by
  refine OkS.code hp hf (fun _ => rfl) fun l ⟨hk, hn⟩ => ?_
  have bad : ¬ ((∀ m, m ∈ l → nameOk m.name = true ∧ isRole m.role = true) ∧ (l.map (·.name)).Pairwise (fun a b => Op.bytesLess a b = true) ∧ l.length ≤ 8 ∧ ownersRP l ≠ 0) → AV.bool false = AV.bool (rightP l) := fun h => by
    cases hr : rightP l with
    | false => rfl
    | true => exact absurd ((right_iff l).1 hr) h
  simp -dsimp only [go_sem, F41, e_rightR]
  iterate 2 (all_goals try (refine cnd_intro (fun h => ?_) (fun h => ?_) <;> (try simp only [decide_eq_true_eq, decide_eq_false_iff_not, Bool.not_eq_true', Bool.not_eq_false', Bool.and_eq_true, Bool.or_eq_true, Bool.and_eq_false_iff, Bool.or_eq_false_iff, beq_iff_eq, beq_eq_false_iff_ne, ne_eq, Bool.not_eq_true, Bool.not_eq_false] at h) <;> simp -dsimp only [go_sem, *, F41, c_ownersR h1 l hk, r_rightR]))
  · exact bad fun q => by have := q.2.2.2; omega
  rotate_left
  · exact bad fun q => by have := q.2.2.1; omega
  have hw : ownersRP l ≠ 0 := by omega
  have hl8 : l.length ≤ 8 := by omega
  refine Ex.count (n := l.length) (i0 := 0) (fun i g T => g 0 = enc l ∧ (∀ m, m ∈ l.take i → nameOk m.name = true ∧ isRole m.role = true) ∧ ((l.take i).map (·.name)).Pairwise (fun a b => Op.bytesLess a b = true)) (by decide) (by omega) rfl (by omega) ⟨rfl, by simp, by simp⟩ ?_ ?_ ?_
  · rintro i g T hi gi ⟨g0, hI, hJ⟩
    simp -dsimp only [go_sem, gi, g0]
  · rintro i g T hi gi ⟨g0, hI, hJ⟩
    have hmem : l[i] ∈ l := List.getElem_mem hi
    simp -dsimp only [go_sem, gi, g0, ia_enc .i64 hi, ld_enc, c_mem, c_nameR h2 l[i].name (hn _ hmem)]
    (refine cnd_intro (fun h => ?_) (fun h => ?_) <;> (try simp only [decide_eq_true_eq, decide_eq_false_iff_not, Bool.not_eq_true', Bool.not_eq_false', Bool.and_eq_true, Bool.or_eq_true, Bool.and_eq_false_iff, Bool.or_eq_false_iff, beq_iff_eq, beq_eq_false_iff_ne, ne_eq, Bool.not_eq_true, Bool.not_eq_false] at h) <;> simp -dsimp only [go_sem, *, gi, g0, ia_enc .i64 hi, ld_enc, c_mem])
    rotate_left
    · simp -dsimp only [go_sem, F41, r_rightR]
      exact bad fun q => by have := (q.1 _ hmem).1; rw [h] at this; cases this
    have e1 := h
    (refine cnd_intro (fun h => ?_) (fun h => ?_) <;> (try simp only [decide_eq_true_eq, decide_eq_false_iff_not, Bool.not_eq_true', Bool.not_eq_false', Bool.and_eq_true, Bool.or_eq_true, Bool.and_eq_false_iff, Bool.or_eq_false_iff, beq_iff_eq, beq_eq_false_iff_ne, ne_eq, Bool.not_eq_true, Bool.not_eq_false] at h) <;> simp -dsimp only [go_sem, *, gi, g0, ia_enc .i64 hi, ld_enc, c_mem, F41, r_rightR])
    rotate_left
    · exact bad fun q => by have := (q.1 _ hmem).2; simp only [isRole, decide_eq_true_eq] at this; omega
    have e2 := h
    (refine cnd_intro (fun h => ?_) (fun h => ?_) <;> (try simp only [decide_eq_true_eq, decide_eq_false_iff_not, Bool.not_eq_true', Bool.not_eq_false', Bool.and_eq_true, Bool.or_eq_true, Bool.and_eq_false_iff, Bool.or_eq_false_iff, beq_iff_eq, beq_eq_false_iff_ne, ne_eq, Bool.not_eq_true, Bool.not_eq_false] at h) <;> simp -dsimp only [go_sem, *, gi, g0, ia_enc .i64 hi, ld_enc, c_mem, F41, r_rightR])
    · exact bad fun q => by have := (q.1 _ hmem).2; simp only [isRole, decide_eq_true_eq] at this; omega
    have e3 : isRole l[i].role = true := by simp only [isRole, decide_eq_true_eq]; omega
    refine Ex.count (n := i) (i0 := 0) (fun k g T => g 0 = enc l ∧ g 3 = .int .i64 i ∧ ∀ j, (hj : j < k) → (hjl : j < l.length) → Op.bytesLess l[j].name l[i].name = true) (by decide) (by omega) rfl (by omega) (by simp -dsimp only [go_sem, g0, gi]; intro j hj; omega) ?_ ?_ ?_
    · rintro k g T hk gk ⟨g0, g3, hK⟩
      simp -dsimp only [go_sem, gk, g3]
    · rintro k g T hk gk ⟨g0, g3, hK⟩
      have hkl : k < l.length := by omega
      simp -dsimp only [go_sem, gk, g0, g3, ia_enc .i64 hi, ia_enc .i64 hkl, ld_enc, c_mem]
      (refine cnd_intro (fun h => ?_) (fun h => ?_) <;> (try simp only [decide_eq_true_eq, decide_eq_false_iff_not, Bool.not_eq_true', Bool.not_eq_false', Bool.and_eq_true, Bool.or_eq_true, Bool.and_eq_false_iff, Bool.or_eq_false_iff, beq_iff_eq, beq_eq_false_iff_ne, ne_eq, Bool.not_eq_true, Bool.not_eq_false] at h) <;> simp -dsimp only [go_sem, *, gk, g0, g3, F41, r_rightR])
      rotate_left
      · intro j hj hjl
        rcases Nat.lt_or_ge j k with h' | h'
        · exact hK j h' hjl
        · have : j = k := by omega
          subst this; exact h
      · refine bad fun q => ?_
        have := (List.pairwise_iff_getElem.1 q.2.1) k i (by simpa using hkl) (by simpa using hi) hk
        simp only [List.getElem_map] at this
        rw [h] at this; cases this
    · rintro g T gk ⟨g0, g3, hK⟩
      simp -dsimp only [go_sem, g0, g3]
      refine ⟨fun m hm => ?_, ?_⟩
      · rw [List.take_succ_eq_append_getElem hi, List.mem_append] at hm
        rcases hm with hm | hm
        · exact hI m hm
        · rw [List.mem_singleton] at hm; subst hm; exact ⟨e1, e3⟩
      · rw [List.take_succ_eq_append_getElem hi, List.map_append, List.pairwise_append]
        refine ⟨hJ, by simp, fun a ha b hb => ?_⟩
        simp only [List.map_cons, List.map_nil, List.mem_singleton] at hb
        subst hb
        obtain ⟨m, hm, rfl⟩ := List.mem_map.1 ha
        obtain ⟨j, hj, rfl⟩ := List.mem_take_iff_getElem.1 hm
        exact hK j (by omega) (by omega)
  · rintro g T gi ⟨g0, hI, hJ⟩
    rw [List.take_length] at hI hJ
    simp -dsimp only [go_sem, F41, r_rightR]
    rw [(right_iff l).2 ⟨hI, hJ, hl8, hw⟩]
end Go.Proofs.Ytmijfhepagobdaa.Avm
