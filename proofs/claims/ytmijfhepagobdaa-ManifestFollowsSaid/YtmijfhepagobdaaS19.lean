/- Specs: manifests. -/
import Derived.Test.YtmijfhepagobdaaD6
set_option linter.unusedVariables false
set_option linter.unusedSimpArgs false
set_option maxRecDepth 10000
namespace Go.Proofs.Ytmijfhepagobdaa.Avm

theorem ok_bsame {E : Env} (hp : E.prim 11 = none) (hf : E.F 11 = some F11) : OkS E 11 e_bsame (gd k_bsame r_bsame) := by
  refine OkS.code hp hf (fun _ => rfl) fun ⟨a, b⟩ hk => ?_
  have hk : a.length ≤ 9223372036854775807 := hk
  simp -dsimp only [go_sem, F11, e_bsame, r_bsame]
  refine cnd_intro (fun h => ?_) (fun h => ?_) <;> simp only [decide_eq_true_eq, decide_eq_false_iff_not, Bool.not_eq_true', Bool.not_eq_false'] at h
  · have : ¬ a = b := fun e => h (by rw [e])
    simp -dsimp only [go_sem, F11, r_bsame, this]
  · have hl : a.length = b.length := by omega
    simp -dsimp only [go_sem, F11, r_bsame, hl]
    refine Ex.count (n := a.length) (i0 := 0) (fun i g T => g 0 = enc a ∧ g 1 = enc b ∧ a.take i = b.take i) (by decide) (by omega) rfl (by omega) ⟨rfl, rfl, rfl⟩ ?_ ?_ ?_
    · rintro i g T hi gi ⟨g0, g1, hI⟩
      simp -dsimp only [go_sem, gi, g0]
    · rintro i g T hi gi ⟨g0, g1, hI⟩
      have hib : i < b.length := by omega
      simp -dsimp only [go_sem, gi, g0, g1, ia_enc .i64 hi, ia_enc .i64 hib, ld_enc]
      refine cnd_intro (fun h => ?_) (fun h => ?_) <;> simp only [decide_eq_true_eq, decide_eq_false_iff_not, Bool.not_eq_true', Bool.not_eq_false'] at h
      · have : ¬ a = b := fun e => h (by subst e; rfl)
        simp -dsimp only [go_sem, F11, r_bsame, this]
      · simp -dsimp only [go_sem, gi, g0, g1]
        rw [List.take_succ_eq_append_getElem hi, List.take_succ_eq_append_getElem hib, hI]
        have : a[i] = b[i] := UInt8.toNat_inj.1 (by omega)
        rw [this]
    · rintro g T gi ⟨g0, g1, hI⟩
      have : a = b := by rw [List.take_of_length_le (Nat.le_refl _), hl, List.take_of_length_le (Nat.le_refl _)] at hI; exact hI
      simp -dsimp only [go_sem, F11, r_bsame, this]

theorem mayQ_of {m : Mani} (h1 : nameOk m.folder = true) (h2 : nameOk m.by' = true) (h3 : 1 ≤ m.seq) (h4 : m.seq ≤ 1099511627776) (h5 : m.seq = 1 ↔ m.prev.length = 0) (h6 : m.prev.length ≤ 64) (h7 : m.parent = [] ∨ nameOk m.parent = true) (h8 : m.parent ≠ m.folder) (h9 : rightP m.members = true) (h10 : 0 ≤ m.cut) (h11 : m.cut ≤ m.seq) : MayQ m :=
  ⟨h1, h2, h3, h4, h5, h6, h7, h8, h9, h10, h11⟩
theorem nameOk_ne {s : Str} (h : nameOk s = true) : s ≠ [] := by rintro rfl; simp [nameOk] at h
theorem ok_may {E : Env} (hp : E.prim 14 = none) (hf : E.F 14 = some F14) (h1 : E.prim 32 = some fun _ => p_name) (h2 : E.prim 33 = some fun _ => p_right) : OkS E 14 e_may (gd k_may r_may) := by
  refine OkS.code hp hf (fun _ => rfl) fun m ⟨l1, l2, l3, l4, l5⟩ => ?_
  by_cases hM : MayQ m
  · obtain ⟨q1, q2, q3, q4, q5, q6, q7, q8, q9, q10, q11⟩ := id hM
    have r1 : decide (m.seq < 1) = false := decide_eq_false (by omega)
    have r2 : decide (1099511627776 < m.seq) = false := decide_eq_false (by omega)
    have r3 : decide (m.seq = 1) = decide (((m.prev.length : Nat) : Int) = 0) := decide_eq_decide.2 (by omega)
    have r4 : decide ((64 : Int) < ((m.prev.length : Nat) : Int)) = false := decide_eq_false (by omega)
    have r5 : decide (m.parent = m.folder) = false := decide_eq_false q8
    have r6 : decide (0 ≤ m.cut) = true := decide_eq_true q10
    have r7 : decide (m.cut ≤ m.seq) = true := decide_eq_true q11
    have e : mayP m = true := decide_eq_true hM
    rcases q7 with q7 | q7
    · have r8 : decide (m.parent = []) = true := decide_eq_true q7
      simp -dsimp only [go_sem, F14, e_may, r_may, c_name h1 m.folder l1, c_name h1 m.by' l2, c_name h1 m.parent l3, c_right h2 m.members l4, q1, q2, q9, r1, r2, r3, r4, r5, r6, r7, r8, e]
    · have r8 : decide (m.parent = []) = false := decide_eq_false (nameOk_ne q7)
      simp -dsimp only [go_sem, F14, e_may, r_may, c_name h1 m.folder l1, c_name h1 m.by' l2, c_name h1 m.parent l3, c_right h2 m.members l4, q1, q2, q7, q9, r1, r2, r3, r4, r5, r6, r7, r8, e]
  · have e : AV.bool false = AV.bool (mayP m) := by rw [mayP, decide_eq_false hM]
    cases q1 : nameOk m.folder
    · simp -dsimp only [go_sem, F14, e_may, r_may, c_name h1 m.folder l1, c_name h1 m.by' l2, c_name h1 m.parent l3, c_right h2 m.members l4, q1]
      exact e
    cases q2 : nameOk m.by'
    · simp -dsimp only [go_sem, F14, e_may, r_may, c_name h1 m.folder l1, c_name h1 m.by' l2, c_name h1 m.parent l3, c_right h2 m.members l4, q1, q2]
      exact e
    cases r1 : decide (m.seq < 1)
    rotate_left
    · simp -dsimp only [go_sem, F14, e_may, r_may, c_name h1 m.folder l1, c_name h1 m.by' l2, c_name h1 m.parent l3, c_right h2 m.members l4, q1, q2, r1]
      exact e
    cases r2 : decide (1099511627776 < m.seq)
    rotate_left
    · simp -dsimp only [go_sem, F14, e_may, r_may, c_name h1 m.folder l1, c_name h1 m.by' l2, c_name h1 m.parent l3, c_right h2 m.members l4, q1, q2, r1, r2]
      exact e
    cases r3 : (decide (m.seq = 1) != decide (((m.prev.length : Nat) : Int) = 0))
    rotate_left
    · simp -dsimp only [go_sem, F14, e_may, r_may, c_name h1 m.folder l1, c_name h1 m.by' l2, c_name h1 m.parent l3, c_right h2 m.members l4, q1, q2, r1, r2, r3]
      exact e
    cases r4 : decide ((64 : Int) < ((m.prev.length : Nat) : Int))
    rotate_left
    · simp -dsimp only [go_sem, F14, e_may, r_may, c_name h1 m.folder l1, c_name h1 m.by' l2, c_name h1 m.parent l3, c_right h2 m.members l4, q1, q2, r1, r2, r3, r4]
      exact e
    cases r8 : decide (m.parent = [])
    · cases s2 : nameOk m.parent
      · simp -dsimp only [go_sem, F14, e_may, r_may, c_name h1 m.folder l1, c_name h1 m.by' l2, c_name h1 m.parent l3, c_right h2 m.members l4, q1, q2, r1, r2, r3, r4, r8, s2]
        exact e
      cases r5 : decide (m.parent = m.folder)
      rotate_left
      · simp -dsimp only [go_sem, F14, e_may, r_may, c_name h1 m.folder l1, c_name h1 m.by' l2, c_name h1 m.parent l3, c_right h2 m.members l4, q1, q2, r1, r2, r3, r4, r8, s2, r5]
        exact e
      cases q9 : rightP m.members
      · simp -dsimp only [go_sem, F14, e_may, r_may, c_name h1 m.folder l1, c_name h1 m.by' l2, c_name h1 m.parent l3, c_right h2 m.members l4, q1, q2, r1, r2, r3, r4, r8, s2, r5, q9]
        exact e
      cases r6 : decide (0 ≤ m.cut)
      · simp -dsimp only [go_sem, F14, e_may, r_may, c_name h1 m.folder l1, c_name h1 m.by' l2, c_name h1 m.parent l3, c_right h2 m.members l4, q1, q2, r1, r2, r3, r4, r8, s2, r5, q9, r6]
        exact e
      cases r7 : decide (m.cut ≤ m.seq)
      · simp -dsimp only [go_sem, F14, e_may, r_may, c_name h1 m.folder l1, c_name h1 m.by' l2, c_name h1 m.parent l3, c_right h2 m.members l4, q1, q2, r1, r2, r3, r4, r8, s2, r5, q9, r6, r7]
        exact e
      exfalso
      simp only [decide_eq_true_eq, decide_eq_false_iff_not, bne_eq_false_iff_eq, decide_eq_decide] at r1 r2 r3 r4 r5 r6 r7
      exact hM (mayQ_of q1 q2 (by omega) (by omega) (by omega) (by omega) (.inr s2) r5 q9 (by omega) (by omega))
    · skip
      cases r5 : decide (m.parent = m.folder)
      rotate_left
      · simp -dsimp only [go_sem, F14, e_may, r_may, c_name h1 m.folder l1, c_name h1 m.by' l2, c_name h1 m.parent l3, c_right h2 m.members l4, q1, q2, r1, r2, r3, r4, r8, r5]
        exact e
      cases q9 : rightP m.members
      · simp -dsimp only [go_sem, F14, e_may, r_may, c_name h1 m.folder l1, c_name h1 m.by' l2, c_name h1 m.parent l3, c_right h2 m.members l4, q1, q2, r1, r2, r3, r4, r8, r5, q9]
        exact e
      cases r6 : decide (0 ≤ m.cut)
      · simp -dsimp only [go_sem, F14, e_may, r_may, c_name h1 m.folder l1, c_name h1 m.by' l2, c_name h1 m.parent l3, c_right h2 m.members l4, q1, q2, r1, r2, r3, r4, r8, r5, q9, r6]
        exact e
      cases r7 : decide (m.cut ≤ m.seq)
      · simp -dsimp only [go_sem, F14, e_may, r_may, c_name h1 m.folder l1, c_name h1 m.by' l2, c_name h1 m.parent l3, c_right h2 m.members l4, q1, q2, r1, r2, r3, r4, r8, r5, q9, r6, r7]
        exact e
      exfalso
      simp only [decide_eq_true_eq, decide_eq_false_iff_not, bne_eq_false_iff_eq, decide_eq_decide] at r1 r2 r3 r4 r5 r6 r7
      exact hM (mayQ_of q1 q2 (by omega) (by omega) (by omega) (by omega) (.inl (of_decide_eq_true r8)) r5 q9 (by omega) (by omega))
theorem ok_mayR {E : Env} (hp : E.prim 18 = none) (hf : E.F 18 = some F18) (h1 : E.prim 40 = some fun _ => p_nameR) (h2 : E.prim 41 = some fun _ => p_rightR) : OkS E 18 e_mayR (gd k_mayR r_mayR) := by
  refine OkS.code hp hf (fun _ => rfl) fun m ⟨l1, l2, l3, l4, l5⟩ => ?_
  by_cases hM : MayQ m
  · obtain ⟨q1, q2, q3, q4, q5, q6, q7, q8, q9, q10, q11⟩ := id hM
    have r1 : decide (m.seq < 1) = false := decide_eq_false (by omega)
    have r2 : decide (1099511627776 < m.seq) = false := decide_eq_false (by omega)
    have r4 : decide ((64 : Int) < ((m.prev.length : Nat) : Int)) = false := decide_eq_false (by omega)
    have r5 : decide (m.parent = m.folder) = false := decide_eq_false q8
    have r6 : decide (m.cut < 0) = false := decide_eq_false (by omega)
    have r7 : decide (m.seq < m.cut) = false := decide_eq_false (by omega)
    have e : mayP m = true := decide_eq_true hM
    have hseq : (decide (m.seq = 1) = true ∧ decide ((0 : Int) < ((m.prev.length : Nat) : Int)) = false ∧ decide (1 < m.seq) = false) ∨ (decide (m.seq = 1) = false ∧ decide (1 < m.seq) = true ∧ decide (((m.prev.length : Nat) : Int) = 0) = false) := by
      simp only [decide_eq_true_eq, decide_eq_false_iff_not]; omega
    rcases hseq with ⟨t1, t2, t3⟩ | ⟨t1, t2, t3⟩
    all_goals
      rcases q7 with q7 | q7
      · have r8 : decide (m.parent = []) = true := decide_eq_true q7
        simp -dsimp only [go_sem, F18, e_mayR, r_mayR, c_nameR h1 m.folder l1, c_nameR h1 m.by' l2, c_nameR h1 m.parent l3, c_rightR h2 m.members l4, q1, q2, q9, r1, r2, r4, r5, r6, r7, r8, t1, t2, t3, e]
      · have r8 : decide (m.parent = []) = false := decide_eq_false (nameOk_ne q7)
        simp -dsimp only [go_sem, F18, e_mayR, r_mayR, c_nameR h1 m.folder l1, c_nameR h1 m.by' l2, c_nameR h1 m.parent l3, c_rightR h2 m.members l4, q1, q2, q7, q9, r1, r2, r4, r5, r6, r7, r8, t1, t2, t3, e]
  · have e : AV.bool false = AV.bool (mayP m) := by rw [mayP, decide_eq_false hM]
    cases q1 : nameOk m.folder
    · simp -dsimp only [go_sem, F18, e_mayR, r_mayR, c_nameR h1 m.folder l1, c_nameR h1 m.by' l2, c_nameR h1 m.parent l3, c_rightR h2 m.members l4, q1]
      exact e
    cases q2 : nameOk m.by'
    · simp -dsimp only [go_sem, F18, e_mayR, r_mayR, c_nameR h1 m.folder l1, c_nameR h1 m.by' l2, c_nameR h1 m.parent l3, c_rightR h2 m.members l4, q1, q2]
      exact e
    cases q9 : rightP m.members
    · simp -dsimp only [go_sem, F18, e_mayR, r_mayR, c_nameR h1 m.folder l1, c_nameR h1 m.by' l2, c_nameR h1 m.parent l3, c_rightR h2 m.members l4, q1, q2, q9]
      exact e
    cases r1 : decide (m.seq < 1)
    rotate_left
    · simp -dsimp only [go_sem, F18, e_mayR, r_mayR, c_nameR h1 m.folder l1, c_nameR h1 m.by' l2, c_nameR h1 m.parent l3, c_rightR h2 m.members l4, q1, q2, q9, r1]
      exact e
    cases r2 : decide (1099511627776 < m.seq)
    rotate_left
    · simp -dsimp only [go_sem, F18, e_mayR, r_mayR, c_nameR h1 m.folder l1, c_nameR h1 m.by' l2, c_nameR h1 m.parent l3, c_rightR h2 m.members l4, q1, q2, q9, r1, r2]
      exact e
    cases r6 : decide (m.cut < 0)
    rotate_left
    · simp -dsimp only [go_sem, F18, e_mayR, r_mayR, c_nameR h1 m.folder l1, c_nameR h1 m.by' l2, c_nameR h1 m.parent l3, c_rightR h2 m.members l4, q1, q2, q9, r1, r2, r6]
      exact e
    cases r7 : decide (m.seq < m.cut)
    rotate_left
    · simp -dsimp only [go_sem, F18, e_mayR, r_mayR, c_nameR h1 m.folder l1, c_nameR h1 m.by' l2, c_nameR h1 m.parent l3, c_rightR h2 m.members l4, q1, q2, q9, r1, r2, r6, r7]
      exact e
    cases t1 : decide (m.seq = 1)
    · have t2 : decide (1 < m.seq) = true := by
        simp only [decide_eq_true_eq, decide_eq_false_iff_not] at r1 t1 ⊢; omega
      cases t3 : decide (((m.prev.length : Nat) : Int) = 0)
      rotate_left
      · simp -dsimp only [go_sem, F18, e_mayR, r_mayR, c_nameR h1 m.folder l1, c_nameR h1 m.by' l2, c_nameR h1 m.parent l3, c_rightR h2 m.members l4, q1, q2, q9, r1, r2, r6, r7, t1, t2, t3]
        exact e
      cases t4 : decide ((64 : Int) < ((m.prev.length : Nat) : Int))
      rotate_left
      · simp -dsimp only [go_sem, F18, e_mayR, r_mayR, c_nameR h1 m.folder l1, c_nameR h1 m.by' l2, c_nameR h1 m.parent l3, c_rightR h2 m.members l4, q1, q2, q9, r1, r2, r6, r7, t1, t2, t3, t4]
        exact e
      cases r8 : decide (m.parent = [])
      · cases s2 : nameOk m.parent
        · simp -dsimp only [go_sem, F18, e_mayR, r_mayR, c_nameR h1 m.folder l1, c_nameR h1 m.by' l2, c_nameR h1 m.parent l3, c_rightR h2 m.members l4, q1, q2, q9, r1, r2, r6, r7, t1, t2, t3, t4, r8, s2]
          exact e
        cases r5 : decide (m.parent = m.folder)
        rotate_left
        · simp -dsimp only [go_sem, F18, e_mayR, r_mayR, c_nameR h1 m.folder l1, c_nameR h1 m.by' l2, c_nameR h1 m.parent l3, c_rightR h2 m.members l4, q1, q2, q9, r1, r2, r6, r7, t1, t2, t3, t4, r8, s2, r5]
          exact e
        exfalso
        simp only [decide_eq_true_eq, decide_eq_false_iff_not] at r1 r2 r6 r7 t1 t2 t3 t4
        exact hM (mayQ_of q1 q2 (by omega) (by omega) (by omega) (by omega) (.inr s2) (of_decide_eq_false r5) q9 (by omega) (by omega))
      · skip
        exfalso
        simp only [decide_eq_true_eq, decide_eq_false_iff_not] at r1 r2 r6 r7 t1 t2 t3 t4
        exact hM (mayQ_of q1 q2 (by omega) (by omega) (by omega) (by omega) (.inl (of_decide_eq_true r8)) (fun q => nameOk_ne q1 (q.symm.trans (of_decide_eq_true r8))) q9 (by omega) (by omega))
    · have t2 : decide (1 < m.seq) = false := by
        simp only [decide_eq_true_eq, decide_eq_false_iff_not] at t1 ⊢; omega
      cases t3 : decide ((0 : Int) < ((m.prev.length : Nat) : Int))
      rotate_left
      · simp -dsimp only [go_sem, F18, e_mayR, r_mayR, c_nameR h1 m.folder l1, c_nameR h1 m.by' l2, c_nameR h1 m.parent l3, c_rightR h2 m.members l4, q1, q2, q9, r1, r2, r6, r7, t1, t2, t3]
        exact e
      cases r8 : decide (m.parent = [])
      · cases s2 : nameOk m.parent
        · simp -dsimp only [go_sem, F18, e_mayR, r_mayR, c_nameR h1 m.folder l1, c_nameR h1 m.by' l2, c_nameR h1 m.parent l3, c_rightR h2 m.members l4, q1, q2, q9, r1, r2, r6, r7, t1, t2, t3, r8, s2]
          exact e
        cases r5 : decide (m.parent = m.folder)
        rotate_left
        · simp -dsimp only [go_sem, F18, e_mayR, r_mayR, c_nameR h1 m.folder l1, c_nameR h1 m.by' l2, c_nameR h1 m.parent l3, c_rightR h2 m.members l4, q1, q2, q9, r1, r2, r6, r7, t1, t2, t3, r8, s2, r5]
          exact e
        exfalso
        simp only [decide_eq_true_eq, decide_eq_false_iff_not] at r1 r2 r6 r7 t1 t2 t3
        exact hM (mayQ_of q1 q2 (by omega) (by omega) (by omega) (by omega) (.inr s2) (of_decide_eq_false r5) q9 (by omega) (by omega))
      · skip
        exfalso
        simp only [decide_eq_true_eq, decide_eq_false_iff_not] at r1 r2 r6 r7 t1 t2 t3
        exact hM (mayQ_of q1 q2 (by omega) (by omega) (by omega) (by omega) (.inl (of_decide_eq_true r8)) (fun q => nameOk_ne q1 (q.symm.trans (of_decide_eq_true r8))) q9 (by omega) (by omega))
end Go.Proofs.Ytmijfhepagobdaa.Avm
