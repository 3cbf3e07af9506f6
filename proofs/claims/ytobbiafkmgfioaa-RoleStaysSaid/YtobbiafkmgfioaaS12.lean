/- Specs: the law of calls. -/
import Derived.Test.YtobbiafkmgfioaaS11
set_option linter.unusedVariables false
set_option linter.unusedSimpArgs false
set_option maxRecDepth 10000
namespace Go.Proofs.Ytobbiafkmgfioaa.Avm

theorem aaddr_ptr {len sz id o : Nat} {i : Int} (h : 0 ≤ i ∧ i < len) : aaddrA len sz (.ptr id o) (.int .i64 i) = some (.ptr id (o + i.toNat * sz)) := by
  simp only [aaddrA, if_pos h]
theorem bad_all {l : List Mem} {n : Str} (h : rightP l = false ∨ nameOk n = false) (b : Str) (r : Int) : shareP l b n r = ([], 2) ∧ changeP l b n r = ([], 2) ∧ revokeP l b n = ([], 2) := by
  rcases h with h | h
  · simp only [shareP, changeP, revokeP, h, true_or, if_true, and_self]
  · simp only [shareP, changeP, revokeP, h, true_or, or_true, if_true, and_self]
theorem bad_role {r : Int} (h : isRole r = false) (l : List Mem) (b n : Str) : shareP l b n r = ([], 2) ∧ changeP l b n r = ([], 2) := by
  simp only [shareP, changeP, h, or_true, if_true, and_self]
theorem withRP_len (l : List Mem) (n : Str) (r : Int) : (withRP l n r).length ≤ 2 * l.length + 1 := by
  have := wFold_len n r l l.length (Nat.le_refl _)
  rw [List.take_length] at this
  unfold withRP; split
  · omega
  · simp only [List.length_append, List.length_singleton]; omega
theorem cl_nil_len : (([] : List Mem)).length = 0 := rfl

theorem ok_roleCalls {E : Env} (hp : E.prim 9 = none) (hf : E.F 9 = some F9) (h1 : E.prim 59 = some fun _ => p_awake27) (h2 : E.prim 60 = some fun _ => p_few)
    (h3 : E.prim 61 = some fun _ => p_rightR) (h4 : E.prim 62 = some fun _ => p_share) (h5 : E.prim 63 = some fun _ => p_change) (h6 : E.prim 64 = some fun _ => p_revoke)
    (h7 : E.prim 65 = some fun _ => p_right) (h8 : E.prim 66 = some fun _ => p_of) (h9 : E.prim 67 = some fun _ => p_ofR) (h10 : E.prim 38 = some fun _ => p_nameR)
    (h11 : E.prim 68 = some fun _ => p_revokeR) (h12 : E.prim 70 = some fun _ => p_withR) (h13 : E.prim 69 = some fun _ => p_sameR) (h14 : E.prim 71 = some fun _ => p_shareR)
    (h15 : E.prim 72 = some fun _ => p_changeR) : OkS E 9 e_roleCalls (gd k_roleCalls r_roleCalls) := by
  refine OkS.code hp hf (fun _ => rfl) fun ⟨l, a, b, r⟩ hk => ?_
  have hk : l.length ≤ 9223372036854775807 := hk
  have q0 : aaddrA 2 1 (.ptr 0 0) (.int .i64 0) = some (.ptr 0 0) := rfl
  have q1 : aaddrA 2 1 (.ptr 0 0) (.int .i64 1) = some (.ptr 0 1) := rfl
  simp -dsimp only [go_sem, F9, e_roleCalls, r_roleCalls, c_awake27 h1, c_few h2 l hk, q0, q1]
  (refine cnd_intro (fun h => ?_) (fun h => ?_) <;> (try simp only [decide_eq_true_eq, decide_eq_false_iff_not, Bool.not_eq_true', Bool.not_eq_false', Bool.and_eq_true, Bool.or_eq_true, Bool.and_eq_false_iff, Bool.or_eq_false_iff, beq_iff_eq, beq_eq_false_iff_ne, ne_eq, Bool.not_eq_true, Bool.not_eq_false] at h) <;> simp -dsimp only [go_sem, *, F9, r_roleCalls])
  have e1 := few_long h
  clear h
  (refine cnd_intro (fun h => ?_) (fun h => ?_) <;> (try simp only [decide_eq_true_eq, decide_eq_false_iff_not, Bool.not_eq_true', Bool.not_eq_false', Bool.and_eq_true, Bool.or_eq_true, Bool.and_eq_false_iff, Bool.or_eq_false_iff, beq_iff_eq, beq_eq_false_iff_ne, ne_eq, Bool.not_eq_true, Bool.not_eq_false] at h) <;> simp -dsimp only [go_sem, *, F9, r_roleCalls])
  have ha : a.length ≤ 20 := by omega
  clear h
  (refine cnd_intro (fun h => ?_) (fun h => ?_) <;> (try simp only [decide_eq_true_eq, decide_eq_false_iff_not, Bool.not_eq_true', Bool.not_eq_false', Bool.and_eq_true, Bool.or_eq_true, Bool.and_eq_false_iff, Bool.or_eq_false_iff, beq_iff_eq, beq_eq_false_iff_ne, ne_eq, Bool.not_eq_true, Bool.not_eq_false] at h) <;> simp -dsimp only [go_sem, *, F9, r_roleCalls])
  have hb : b.length ≤ 20 := by omega
  clear h
  have l2 : long2 l b := ⟨e1, by omega⟩
  have hl : l.length ≤ 1000000 := e1.1
  have hb' : b.length ≤ 9223372036854775807 := by omega
  have hwl : ∀ r, (withRP l b r).length ≤ 9223372036854775807 := fun r => by have := withRP_len l b r; omega
  by_cases hbad : rightP l = false ∨ nameOk b = false
  · obtain ⟨b1, b2, b3⟩ := bad_all hbad a r
    rcases hbad with hx | hx
    · simp -dsimp only [go_sem, F9, r_roleCalls, c_rightR h3 l e1, c_share h4 l a b r l2, c_change h5 l a b r l2, c_revoke h6 l a b l2, c_right h7 l e1, c_of h8 l b hl, c_ofR h9 l b hk, c_nameR h10 b hb', c_revokeR h11 l a b hl, c_withR h12 l b _ hl, c_sameR h13 _ _ (hwl _), c_shareR h14 l a b r hl, c_changeR h15 l a b r hl, b1, b2, b3, hx]
      rfl
    · cases hy : rightP l
      · simp -dsimp only [go_sem, F9, r_roleCalls, c_rightR h3 l e1, c_share h4 l a b r l2, c_change h5 l a b r l2, c_revoke h6 l a b l2, c_right h7 l e1, c_of h8 l b hl, c_ofR h9 l b hk, c_nameR h10 b hb', c_revokeR h11 l a b hl, c_withR h12 l b _ hl, c_sameR h13 _ _ (hwl _), c_shareR h14 l a b r hl, c_changeR h15 l a b r hl, b1, b2, b3, hx, hy]
        rfl
      · simp -dsimp only [go_sem, F9, r_roleCalls, c_rightR h3 l e1, c_share h4 l a b r l2, c_change h5 l a b r l2, c_revoke h6 l a b l2, c_right h7 l e1, c_of h8 l b hl, c_ofR h9 l b hk, c_nameR h10 b hb', c_revokeR h11 l a b hl, c_withR h12 l b _ hl, c_sameR h13 _ _ (hwl _), c_shareR h14 l a b r hl, c_changeR h15 l a b r hl, b1, b2, b3, hx, hy]
        rfl
  · simp only [not_or, Bool.not_eq_false] at hbad
    obtain ⟨hx, hy⟩ := hbad
    have hz : decide ((0 : Int) < ((0 : Nat) : Int)) = false := rfl
    have badr : isRole r = false → decide (r < 1) = false → decide (4 < r) = true := fun h1 h2 => by
      simp only [isRole, decide_eq_false_iff_not, decide_eq_true_eq] at *; omega
    have good : isRole r = true → decide (r < 1) = false ∧ decide (4 < r) = false := fun h1 => by
      simp only [isRole, decide_eq_false_iff_not, decide_eq_true_eq] at *; omega
    rcases revoke_all hx hy a with ⟨r1, r2⟩ | ⟨c, c0, r1, r2⟩
    all_goals
      first | (have q := c0; clear q) | have c0 := trivial
      cases hr : isRole r
      · obtain ⟨b1, b2⟩ := bad_role hr l a b
        cases hr1 : decide (r < 1)
        · have hr2 := badr hr hr1
          simp -dsimp only [go_sem, F9, r_roleCalls, c_rightR h3 l e1, c_share h4 l a b r l2, c_change h5 l a b r l2, c_revoke h6 l a b l2, c_right h7 l e1, c_of h8 l b hl, c_ofR h9 l b hk, c_nameR h10 b hb', c_revokeR h11 l a b hl, c_withR h12 l b _ hl, c_sameR h13 _ _ (hwl _), c_shareR h14 l a b r hl, c_changeR h15 l a b r hl, b1, b2, r1, r2, hx, hy, hr1, hr2, c0, hz]
          try rfl
        · simp -dsimp only [go_sem, F9, r_roleCalls, c_rightR h3 l e1, c_share h4 l a b r l2, c_change h5 l a b r l2, c_revoke h6 l a b l2, c_right h7 l e1, c_of h8 l b hl, c_ofR h9 l b hk, c_nameR h10 b hb', c_revokeR h11 l a b hl, c_withR h12 l b _ hl, c_sameR h13 _ _ (hwl _), c_shareR h14 l a b r hl, c_changeR h15 l a b r hl, b1, b2, r1, r2, hx, hy, hr1, c0, hz]
          try rfl
      · obtain ⟨hr1, hr2⟩ := good hr
        rcases share_all hx hy hr a with ⟨s1, s2⟩ | ⟨cs, s0, s1, s2⟩
        all_goals
          rcases change_all hx hy hr a with ⟨t1, t2⟩ | ⟨cc, t0, t1, t2⟩
          all_goals
            first | (have q := s0; clear q) | have s0 := trivial
            first | (have q := t0; clear q) | have t0 := trivial
            simp -dsimp only [go_sem, F9, r_roleCalls, c_rightR h3 l e1, c_share h4 l a b r l2, c_change h5 l a b r l2, c_revoke h6 l a b l2, c_right h7 l e1, c_of h8 l b hl, c_ofR h9 l b hk, c_nameR h10 b hb', c_revokeR h11 l a b hl, c_withR h12 l b _ hl, c_sameR h13 _ _ (hwl _), c_shareR h14 l a b r hl, c_changeR h15 l a b r hl, r1, r2, s1, s2, t1, t2, hx, hy, hr1, hr2, c0, s0, t0, hz]
            try rfl
end Go.Proofs.Ytobbiafkmgfioaa.Avm
