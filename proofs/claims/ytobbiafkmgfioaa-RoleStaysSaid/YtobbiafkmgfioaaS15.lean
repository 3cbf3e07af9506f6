/- What a deed makes of a right list. -/
import Derived.Test.YtobbiafkmgfioaaS14
set_option linter.unusedVariables false
set_option linter.unusedSimpArgs false
namespace Go.Proofs.Ytobbiafkmgfioaa.Avm

theorem share_good {l : List Mem} (h : rightP l = true) (b n : Str) (r : Int) : (∃ nx, shareP l b n r = (nx, 0) ∧ Good l nx b n) ∨ ∃ c, c ≠ 0 ∧ shareP l b n r = ([], c) := by
  unfold shareP
  split
  · exact .inr ⟨2, by decide, rfl⟩
  rename_i h1
  simp only [not_or, Bool.not_eq_false] at h1
  split
  · exact .inr ⟨40, by decide, rfl⟩
  split
  · exact .inr ⟨42, by decide, rfl⟩
  split
  · exact .inr ⟨40, by decide, rfl⟩
  split
  · exact .inr ⟨3, by decide, rfl⟩
  rename_i h2 h3 h4 h5
  rw [high_one] at h4
  have hr := h1.2.2
  have hr2 : 1 ≤ r ∧ r ≤ 4 := by simpa only [isRole, decide_eq_true_eq] using hr
  have hof := of_at h n
  have h0 : ofP l n = 0 := hof.1.1 (by omega)
  have e := share_list h h0 hr
  refine .inl ⟨_, rfl, good_of h h1.2.1 (by omega) e (by omega) ?_ (by omega) (fun q => h2 q.1) (fun q1 q2 => by omega) fun _ => ?_⟩
  · have hlen := share_all h h1.2.1 hr b
    have : (wRec n r false l).length ≤ l.length + 1 := wRec_len l
    rw [e, withRP_eq, decide_eq_false (by omega)]
    omega
  · have hself : ofP (isort (l ++ [⟨n, r⟩])) n = r := by rw [e, of_with, if_pos rfl]
    rw [stepE, hself, if_neg (by omega), if_pos (by omega)]
    have : shareP l b n r = (isort (l ++ [⟨n, r⟩]), 0) := by
      unfold shareP
      rw [if_neg (by simp [h1.1, h1.2.1, h1.2.2]), if_neg h2, if_neg h3, if_neg (by rw [high_one]; exact h4), if_neg h5]
    rw [this]
theorem change_good {l : List Mem} (h : rightP l = true) (b n : Str) (r : Int) : (∃ nx, changeP l b n r = (nx, 0) ∧ Good l nx b n) ∨ ∃ c, c ≠ 0 ∧ changeP l b n r = ([], c) := by
  have hd : changeP l b n r = changeP l b n r := rfl
  conv => lhs; unfold changeP
  conv => rhs; unfold changeP
  split
  · exact .inr ⟨2, by decide, rfl⟩
  rename_i h1
  simp only [not_or, Bool.not_eq_false] at h1
  split
  · exact .inr ⟨40, by decide, rfl⟩
  split
  · exact .inr ⟨35, by decide, rfl⟩
  split
  · exact .inr ⟨40, by decide, rfl⟩
  split
  · exact .inr ⟨46, by decide, rfl⟩
  rename_i h2 h3 h4 h5
  rw [high_two] at h4
  have hr := h1.2.2
  have hr2 : 1 ≤ r ∧ r ≤ 4 := by simpa only [isRole, decide_eq_true_eq] using hr
  have hof := of_at h n
  have h0 : ofP l n ≠ 0 := fun q => h3 (hof.1.2 q)
  have e := change_list h h0 hr
  refine .inl ⟨_, rfl, good_of h h1.2.1 (by omega) e (by omega) (by rw [List.length_set]; exact (right_len h).1) ?_ (fun q => h2 q.1) (fun q1 q2 => by omega) fun q => ?_⟩
  · have := owners_right h
    rintro ⟨q1, q2, q3⟩
    exact h5 ⟨q1, by omega, by omega⟩
  · have hself : ofP (l.set (atP l n).toNat ⟨n, r⟩) n = r := by rw [e, of_with, if_pos rfl]
    rw [stepE, hself, if_neg (by omega), if_neg h3]
    have : changeP l b n r = (l.set (atP l n).toNat ⟨n, r⟩, 0) := by
      unfold changeP
      rw [if_neg (by simp [h1.1, h1.2.1, h1.2.2]), if_neg h2, if_neg h3, if_neg (by rw [high_two]; exact h4), if_neg h5]
    rw [this]
theorem revoke_good {l : List Mem} (h : rightP l = true) (b n : Str) : (∃ nx, revokeP l b n = (nx, 0) ∧ Good l nx b n) ∨ ∃ c, c ≠ 0 ∧ revokeP l b n = ([], c) := by
  conv => lhs; unfold revokeP
  conv => rhs; unfold revokeP
  split
  · exact .inr ⟨2, by decide, rfl⟩
  rename_i h1
  simp only [not_or, Bool.not_eq_false] at h1
  split
  · exact .inr ⟨40, by decide, rfl⟩
  split
  · exact .inr ⟨35, by decide, rfl⟩
  split
  · exact .inr ⟨40, by decide, rfl⟩
  split
  · exact .inr ⟨46, by decide, rfl⟩
  rename_i h2 h3 h4 h5
  rw [high_one] at h4
  have hof := of_at h n
  have h0 : ofP l n ≠ 0 := fun q => h3 (hof.1.2 q)
  have e := revoke_list h h0
  refine .inl ⟨_, rfl, good_of (r := 0) h h1.2 (by omega) e (by omega) (by rw [List.length_eraseIdx]; have := (right_len h).1; split <;> omega) ?_ (fun q => h2 ⟨q.2, q.1⟩) (fun q1 q2 => ?_) fun q => ?_⟩
  · have := owners_right h
    rintro ⟨q1, q2, q3⟩
    exact h5 ⟨q1, by omega⟩
  · refine ⟨Classical.byContradiction fun q => h4 ⟨q, ?_, q1⟩, rfl⟩
    omega
  · have hself : ofP (l.eraseIdx (atP l n).toNat) n = 0 := by rw [e, of_with, if_pos rfl]
    rw [stepE, hself, if_pos rfl]
    have : revokeP l b n = (l.eraseIdx (atP l n).toNat, 0) := by
      unfold revokeP
      rw [if_neg (by simp [h1.1, h1.2]), if_neg h2, if_neg h3, if_neg (by rw [high_one]; exact h4), if_neg h5]
    rw [this]
theorem do_all {l : List Mem} (h : rightP l = true) (d : Deed) : (∃ nx, doP l d = (nx, 0) ∧ Good l nx d.by' d.name) ∨ ∃ c, c ≠ 0 ∧ doP l d = ([], c) := by
  unfold doP
  split
  · exact share_good h _ _ _
  · split
    · exact change_good h _ _ _
    · exact revoke_good h _ _
end Go.Proofs.Ytobbiafkmgfioaa.Avm
