/- Specs: steps; the document's functions on roles. -/
import Derived.Test.YtmijfhepagobdaaD3
set_option linter.unusedVariables false
set_option linter.unusedSimpArgs false
namespace Go.Proofs.Ytmijfhepagobdaa.Avm

theorem filt_succ {α β : Type} {l : List α} {i : Nat} (hi : i < l.length) (p : α → Bool) (f : α → β) : ((l.take (i + 1)).filter p).map f = if p l[i] = true then ((l.take i).filter p).map f ++ [f l[i]] else ((l.take i).filter p).map f := by
  rw [List.take_succ_eq_append_getElem hi, List.filter_append, List.map_append]
  split <;> simp_all [List.filter_cons]
theorem filt_len {α β : Type} (l : List α) (i : Nat) (p : α → Bool) (f : α → β) : (((l.take i).filter p).map f).length ≤ l.length := by
  rw [List.length_map]; exact Nat.le_trans (List.length_filter_le _ _) (List.length_take_le' _ _)

theorem ok_differ {E : Env} (hp : E.prim 35 = none) (hf : E.F 35 = some F35) (h1 : E.prim 34 = some fun _ => p_of) : OkG E 35 e_differ (gd k_differ r_differ) := by
  refine OkG.code hp hf (fun _ => rfl) fun ⟨l, m⟩ S ⟨hk, hk2⟩ => ?_
  have hk : l.length ≤ 1000000 := hk
  have hk2 : m.length ≤ 1000000 := hk2
  simp -dsimp only [go_sem, F35, e_differ]
  refine Ex.range (n := l.length) (fun i g T => g 0 = enc l ∧ g 1 = enc m ∧ g 10 = enc l ∧ OwnL S T (g 5) (((l.take i).filter fun x => decide (ofP m x.name ≠ x.role)).map (·.name))) (by decide) (by omega) rfl rfl ⟨rfl, rfl, rfl, OwnL.nil List.prefix_rfl⟩ ?_ ?_
  · rintro i g T hi gi gn ⟨g0, g1, g10, hO⟩
    have hfl := filt_len l i (fun x : Mem => decide (ofP m x.name ≠ x.role)) (·.name)
    have hfs := filt_succ hi (fun x : Mem => decide (ofP m x.name ≠ x.role)) (·.name)
    simp -dsimp only [go_sem, gi, gn, g0, g1, g10, ia_enc .i64 hi, ld_enc, c_mem]
    refine ExF.intro ?_
    simp -dsimp only [go_sem, gi, gn, g0, g1, g10, c_of h1 m l[i].name hk2]
    refine ⟨?_, fl_ld rfl rfl rfl rfl (flLd_n _ _ _ _ _ _ ?_)⟩
    rotate_left
    · simp -dsimp only [go_sem]
    refine cnd_intro (fun h => ?_) (fun h => ?_) <;> simp only [Bool.not_eq_true', Bool.not_eq_false', decide_eq_true_eq, decide_eq_false_iff_not] at h
    · simp -dsimp only [go_sem, gi, gn, g0, g1, g10]
      refine OwnL.app (hO.more _) rfl (el_enc _ rfl) (by simp only [List.length_singleton]; omega) fun x T' hO' hK _ => ?_
      simp -dsimp only [go_sem, gi, gn, g0, g1, g10]
      rw [if_pos (by simpa using h)] at hfs
      rw [hfs]; exact hO'
    · simp -dsimp only [go_sem, gi, gn, g0, g1, g10]
      rw [if_neg (by simpa using h)] at hfs
      rw [hfs]; exact hO.more _
  · rintro g T gi ⟨g0, g1, g10, hO⟩
    rw [List.take_length] at hO
    have hfl0 := filt_len l l.length (fun x : Mem => decide (ofP m x.name ≠ x.role)) (·.name)
    rw [List.take_length] at hfl0
    simp -dsimp only [go_sem, F35, g0, g1]
    refine Ex.range (n := m.length) (fun i g T => g 0 = enc l ∧ g 1 = enc m ∧ g 29 = enc m ∧ OwnL S T (g 5) ((l.filter fun x => decide (ofP m x.name ≠ x.role)).map (·.name) ++ ((m.take i).filter fun x => decide (ofP l x.name = 0)).map (·.name))) (by decide) (by omega) rfl rfl (by simp -dsimp only [go_sem, g0, g1]; simpa using hO) ?_ ?_
    · rintro i g T hi gi gn ⟨g0, g1, g10, hO⟩
      have hfl := filt_len m i (fun x : Mem => decide (ofP l x.name = 0)) (·.name)
      have hfs := filt_succ hi (fun x : Mem => decide (ofP l x.name = 0)) (·.name)
      simp -dsimp only [go_sem, gi, gn, g0, g1, g10, ia_enc .i64 hi, ld_enc, c_mem, c_of h1 l m[i].name hk]
      refine cnd_intro (fun h => ?_) (fun h => ?_) <;> simp only [Bool.not_eq_true', Bool.not_eq_false', decide_eq_true_eq, decide_eq_false_iff_not] at h
      · simp -dsimp only [go_sem, gi, gn, g0, g1, g10]
        refine OwnL.app (hO.more _) rfl (el_enc _ rfl) (by simp only [List.length_singleton, List.length_append] at *; omega) fun x T' hO' hK _ => ?_
        simp -dsimp only [go_sem, gi, gn, g0, g1, g10]
        rw [if_pos (by simpa using h)] at hfs
        rw [hfs, ← List.append_assoc]; exact hO'
      · simp -dsimp only [go_sem, gi, gn, g0, g1, g10]
        rw [if_neg (by simpa using h)] at hfs
        rw [hfs]; exact hO.more _
    · rintro g T gi ⟨g0, g1, g10, hO⟩
      rw [List.take_length] at hO
      simp -dsimp only [go_sem, F35, r_differ]
      exact hO.conv

theorem ok_ofR {E : Env} (hp : E.prim 20 = none) (hf : E.F 20 = some F20) : OkS E 20 e_ofR (gd k_ofR r_ofR) := by
  refine OkS.code hp hf (fun _ => rfl) fun ⟨l, n⟩ hk => ?_
  simp -dsimp only [go_sem, F20, e_ofR]
  refine Ex.count (n := l.length) (i0 := 0) (fun i g T => g 0 = enc l ∧ g 1 = .str n ∧ ofP l n = ofP (l.drop i) n) (by decide) hk rfl (by omega) ⟨rfl, rfl, rfl⟩ ?_ ?_ ?_
  · rintro i g T hi gi ⟨g0, g1, hI⟩
    simp -dsimp only [go_sem, gi, g0]
  · rintro i g T hi gi ⟨g0, g1, hI⟩
    rw [List.drop_eq_getElem_cons hi] at hI
    simp -dsimp only [go_sem, gi, g0, g1, ia_enc .i64 hi, ld_enc, c_mem]
    refine cnd_intro (fun h => ?_) (fun h => ?_) <;> simp only [decide_eq_true_eq, decide_eq_false_iff_not] at h
    · simp -dsimp only [go_sem, gi, g0, g1, ia_enc .i64 hi, ld_enc, c_mem, F20, r_ofR, hI, ofP, h]
    · simp -dsimp only [go_sem, gi, g0, g1, hI, ofP, h]
  · rintro g T gi ⟨g0, g1, hI⟩
    simp -dsimp only [go_sem, F20, r_ofR, hI, List.drop_length, ofP]

theorem ok_ownersR {E : Env} (hp : E.prim 58 = none) (hf : E.F 58 = some F58) : OkS E 58 e_ownersR (gd k_ownersR r_ownersR) := by
  refine OkS.code hp hf (fun _ => rfl) fun l hk => ?_
  have hk : l.length ≤ 1000000 := hk
  simp -dsimp only [go_sem, F58, e_ownersR]
  refine Ex.count (n := l.length) (i0 := 0) (fun i g T => g 0 = enc l ∧ g 3 = .int .i64 (ownersRP (l.take i))) (by decide) (by omega) rfl (by omega) ⟨rfl, rfl⟩ ?_ ?_ ?_
  · rintro i g T hi gi ⟨g0, g3⟩
    simp -dsimp only [go_sem, gi, g0]
  · rintro i g T hi gi ⟨g0, g3⟩
    have hfl := filt_len l i (fun x : Mem => decide (x.role = 4)) (·.name)
    have hfs0 := congrArg List.length (filt_succ hi (fun x : Mem => decide (x.role = 4)) (·.name))
    simp only [apply_ite List.length, List.length_append, List.length_map, List.length_singleton, decide_eq_true_eq] at hfs0 hfl
    have hfs : ownersRP (l.take (i + 1)) = if l[i].role = 4 then ownersRP (l.take i) + 1 else ownersRP (l.take i) := hfs0
    have hw := wrapS (i := ownersRP (l.take i)) (by unfold ownersRP; omega)
    simp -dsimp only [go_sem, gi, g0, g3, ia_enc .i64 hi, ld_enc, c_mem]
    refine cnd_intro (fun h => ?_) (fun h => ?_) <;> simp only [decide_eq_true_eq, decide_eq_false_iff_not] at h
    · rw [if_pos h] at hfs
      simp -dsimp only [go_sem, gi, g0, g3, hw, hfs]
    · rw [if_neg h] at hfs
      simp -dsimp only [go_sem, gi, g0, g3, hfs]
  · rintro g T gi ⟨g0, g3⟩
    rw [List.take_length] at g3
    simp -dsimp only [go_sem, F58, r_ownersR, g3]

theorem ok_shareR {E : Env} (hp : E.prim 43 = none) (hf : E.F 43 = some F43) (h1 : E.prim 20 = some fun _ => p_ofR) : OkS E 43 e_shareR (gd k_shareR r_shareR) := by
  refine OkS.code hp hf (fun _ => rfl) fun ⟨l, b, n, r⟩ hk => ?_
  have hk : l.length ≤ 1000000 := hk
  simp -dsimp only [go_sem, F43, e_shareR, c_ofR h1 l _ (show l.length ≤ 9223372036854775807 by omega)]
  iterate 6 (all_goals try (refine cnd_intro (fun h => ?_) (fun h => ?_) <;> (try simp only [decide_eq_true_eq, decide_eq_false_iff_not, Bool.not_eq_true', Bool.not_eq_false', Bool.and_eq_true, Bool.or_eq_true, Bool.and_eq_false_iff, Bool.or_eq_false_iff, beq_iff_eq, beq_eq_false_iff_ne, ne_eq, Bool.not_eq_true, Bool.not_eq_false] at h) <;> simp -dsimp only [go_sem, *, F43, c_ofR h1 l _ (show l.length ≤ 9223372036854775807 by omega)]))
  all_goals
    refine congrArg (AV.int .i64) ?_
    simp only [shareRP]
    repeat' split
    all_goals first | rfl | omega

theorem ok_changeR {E : Env} (hp : E.prim 44 = none) (hf : E.F 44 = some F44) (h1 : E.prim 20 = some fun _ => p_ofR) (h2 : E.prim 58 = some fun _ => p_ownersR) : OkS E 44 e_changeR (gd k_changeR r_changeR) := by
  refine OkS.code hp hf (fun _ => rfl) fun ⟨l, b, n, r⟩ hk => ?_
  have hk : l.length ≤ 1000000 := hk
  simp -dsimp only [go_sem, F44, e_changeR, c_ofR h1 l _ (show l.length ≤ 9223372036854775807 by omega)]
  iterate 8 (all_goals try (refine cnd_intro (fun h => ?_) (fun h => ?_) <;> (try simp only [decide_eq_true_eq, decide_eq_false_iff_not, Bool.not_eq_true', Bool.not_eq_false', Bool.and_eq_true, Bool.or_eq_true, Bool.and_eq_false_iff, Bool.or_eq_false_iff, beq_iff_eq, beq_eq_false_iff_ne, ne_eq, Bool.not_eq_true, Bool.not_eq_false] at h) <;> simp -dsimp only [go_sem, *, F44, c_ownersR h2 l hk]))
  all_goals
    refine congrArg (AV.int .i64) ?_
    simp only [changeRP]
    repeat' split
    all_goals first | rfl | omega

theorem ok_revokeR {E : Env} (hp : E.prim 42 = none) (hf : E.F 42 = some F42) (h1 : E.prim 20 = some fun _ => p_ofR) (h2 : E.prim 58 = some fun _ => p_ownersR) : OkS E 42 e_revokeR (gd k_revokeR r_revokeR) := by
  refine OkS.code hp hf (fun _ => rfl) fun ⟨l, b, n⟩ hk => ?_
  have hk : l.length ≤ 1000000 := hk
  simp -dsimp only [go_sem, F42, e_revokeR, c_ofR h1 l _ (show l.length ≤ 9223372036854775807 by omega)]
  iterate 10 (all_goals try (refine cnd_intro (fun h => ?_) (fun h => ?_) <;> (try simp only [decide_eq_true_eq, decide_eq_false_iff_not, Bool.not_eq_true', Bool.not_eq_false', Bool.and_eq_true, Bool.or_eq_true, Bool.and_eq_false_iff, Bool.or_eq_false_iff, beq_iff_eq, beq_eq_false_iff_ne, ne_eq, Bool.not_eq_true, Bool.not_eq_false] at h) <;> simp -dsimp only [go_sem, *, F42, c_ownersR h2 l hk]))
  all_goals
    refine congrArg (AV.int .i64) ?_
    simp only [revokeRP]
    repeat' split
    all_goals first | rfl | omega | (exfalso; simp_all; done) | (exfalso; simp_all; omega)

theorem ok_sameR {E : Env} (hp : E.prim 19 = none) (hf : E.F 19 = some F19) : OkS E 19 e_sameR (gd k_sameR r_sameR) := by
  refine OkS.code hp hf (fun _ => rfl) fun ⟨l, m⟩ hk => ?_
  have hk : l.length ≤ 9223372036854775807 := hk
  simp -dsimp only [go_sem, F19, e_sameR]
  refine cnd_intro (fun h => ?_) (fun h => ?_) <;> simp only [Bool.not_eq_true', Bool.not_eq_false', decide_eq_true_eq, decide_eq_false_iff_not] at h
  · simp -dsimp only [go_sem, F19, r_sameR]
    refine congrArg AV.bool (decide_eq_false fun e => ?_).symm
    subst e; exact h rfl
  have hlen : l.length = m.length := by omega
  simp -dsimp only [go_sem, F19]
  refine Ex.count (n := l.length) (i0 := 0) (fun i g T => g 0 = enc l ∧ g 1 = enc m ∧ l.take i = m.take i) (by decide) hk rfl (by omega) ⟨rfl, rfl, rfl⟩ ?_ ?_ ?_
  · rintro i g T hi gi ⟨g0, g1, hI⟩
    simp -dsimp only [go_sem, gi, g0]
  · rintro i g T hi gi ⟨g0, g1, hI⟩
    have hi2 : i < m.length := by omega
    simp -dsimp only [go_sem, gi, g0, g1, ia_enc .i64 hi, ia_enc .i64 hi2, ld_enc, c_mem]
    refine cnd_intro (fun h => ?_) (fun h => ?_) <;> simp only [Bool.not_eq_true', Bool.not_eq_false', decide_eq_true_eq, decide_eq_false_iff_not] at h
    · simp -dsimp only [go_sem, F19, r_sameR]
      refine congrArg AV.bool (decide_eq_false fun e => ?_).symm
      subst e; exact h rfl
    · simp -dsimp only [go_sem, gi, g0, g1]
      rw [List.take_succ_eq_append_getElem hi, List.take_succ_eq_append_getElem hi2, hI, h]
  · rintro g T gi ⟨g0, g1, hI⟩
    rw [List.take_length, hlen, List.take_length] at hI
    subst hI
    simp -dsimp only [go_sem, F19, r_sameR]
end Go.Proofs.Ytmijfhepagobdaa.Avm
