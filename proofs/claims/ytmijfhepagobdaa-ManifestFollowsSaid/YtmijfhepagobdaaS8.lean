/- Specs: the document's steps, and the law of steps. -/
import Derived.Test.YtmijfhepagobdaaS7
set_option linter.unusedVariables false
set_option linter.unusedSimpArgs false
namespace Go.Proofs.Ytmijfhepagobdaa.Avm

theorem last_one {l : List Str} (h : l.length = 1) : l = [l.headD []] := by
  cases l with
  | nil => simp at h
  | cons a l => cases l with
    | nil => rfl
    | cons b l => simp at h

def dfA (m l : List Mem) : List Str := (l.filter fun x => decide (ofP m x.name ≠ x.role)).map (·.name)
def dfB (l m : List Mem) : List Str := (m.filter fun x => decide (ofP l x.name = 0)).map (·.name)
theorem dfA_succ {l : List Mem} {i : Nat} (hi : i < l.length) (m : List Mem) : dfA m (l.take (i + 1)) = if ¬ ofP m l[i].name = l[i].role then dfA m (l.take i) ++ [l[i].name] else dfA m (l.take i) := by
  unfold dfA; rw [filt_succ hi]; simp only [decide_eq_true_eq, ne_eq]
theorem dfB_succ {m : List Mem} {i : Nat} (hi : i < m.length) (l : List Mem) : dfB l (m.take (i + 1)) = if ofP l m[i].name = 0 then dfB l (m.take i) ++ [m[i].name] else dfB l (m.take i) := by
  unfold dfB; rw [filt_succ hi]; simp only [decide_eq_true_eq]
theorem ok_stepR {E : Env} (hp : E.prim 21 = none) (hf : E.F 21 = some F21) (h1 : E.prim 41 = some fun _ => p_rightR) (h2 : E.prim 20 = some fun _ => p_ofR)
    (h3 : E.prim 43 = some fun _ => p_shareR) (h4 : E.prim 44 = some fun _ => p_changeR) (h5 : E.prim 42 = some fun _ => p_revokeR) :
    OkS E 21 e_stepR (gd k_stepR r_stepR) := by
  refine OkS.code hp hf (fun _ => rfl) fun ⟨l, m, b⟩ ⟨hk, hk2⟩ => ?_
  have hl1 : l.length ≤ 1000000 := hk.1
  have hm1 : m.length ≤ 1000000 := hk2.1
  simp -dsimp only [go_sem, F21, e_stepR, c_rightR h1 l hk]
  (refine cnd_intro (fun h => ?_) (fun h => ?_) <;> (try simp only [decide_eq_true_eq, decide_eq_false_iff_not, Bool.not_eq_true', Bool.not_eq_false', Bool.and_eq_true, Bool.or_eq_true, Bool.and_eq_false_iff, Bool.or_eq_false_iff, beq_iff_eq, beq_eq_false_iff_ne, ne_eq, Bool.not_eq_true, Bool.not_eq_false] at h) <;> simp -dsimp only [go_sem, *, F21, c_rightR h1 m hk2])
  rotate_left
  · simp only [r_stepR, stepRP, h, true_or, if_true]
  have e1 := h
  (refine cnd_intro (fun h => ?_) (fun h => ?_) <;> (try simp only [decide_eq_true_eq, decide_eq_false_iff_not, Bool.not_eq_true', Bool.not_eq_false', Bool.and_eq_true, Bool.or_eq_true, Bool.and_eq_false_iff, Bool.or_eq_false_iff, beq_iff_eq, beq_eq_false_iff_ne, ne_eq, Bool.not_eq_true, Bool.not_eq_false] at h) <;> simp -dsimp only [go_sem, *, F21])
  · simp only [r_stepR, stepRP, h, or_true, if_true]
  have e2 := h
  clear h
  -- the names that differ so far, the last of them and how many
  refine Ex.count (n := l.length) (i0 := 0) (fun i g T => g 0 = enc l ∧ g 1 = enc m ∧ g 2 = .str b ∧ g 8 = .str ((dfA m (l.take i)).getLastD []) ∧
    g 9 = .int .i64 ((dfA m (l.take i)).length : Nat)) (by decide) (by omega) rfl (by omega) ⟨rfl, rfl, rfl, rfl, rfl⟩ ?_ ?_ ?_
  · rintro i g T hi gi ⟨g0, g1, g2, g8, g9⟩
    simp -dsimp only [go_sem, gi, g0]
  · rintro i g T hi gi ⟨g0, g1, g2, g8, g9⟩
    have hfl : (dfA m (l.take i)).length ≤ l.length := filt_len l i _ _
    have hfs := dfA_succ hi m
    have hw := wrapS (i := (dfA m (l.take i)).length) (by omega)
    simp -dsimp only [go_sem]
    refine ExF.intro ?_
    simp -dsimp only [go_sem, gi, g0, g1, g2, ia_enc .i64 hi, ld_enc, c_mem, c_ofR h2 m _ (show m.length ≤ 9223372036854775807 by omega)]
    refine ⟨?_, fl_ld rfl rfl rfl rfl (flLd_n _ _ _ _ _ _ ?_)⟩
    rotate_left
    · simp -dsimp only [go_sem, gi, g0, ia_enc .i64 hi, ld_enc, c_mem]
    refine cnd_intro (fun h => ?_) (fun h => ?_) <;> simp only [Bool.not_eq_true', Bool.not_eq_false', decide_eq_true_eq, decide_eq_false_iff_not] at h
    · rw [if_pos h] at hfs
      simp -dsimp only [go_sem, gi, g0, g1, g2, g9, hw, ia_enc .i64 hi, ld_enc, c_mem]
      rw [hfs]
      exact ⟨by simp, by simp⟩
    · rw [if_neg (fun q => q h)] at hfs
      simp -dsimp only [go_sem, gi, g0, g1, g2, g8, g9]
      rw [hfs]
      exact ⟨rfl, rfl⟩
  · rintro g T gi ⟨g0, g1, g2, g8, g9⟩
    rw [List.take_length] at g8 g9
    have hfl0 : (dfA m (l.take l.length)).length ≤ l.length := filt_len l l.length _ _
    rw [List.take_length] at hfl0
    simp -dsimp only [go_sem, F21]
    refine Ex.count (n := m.length) (i0 := 0) (fun i g T => g 0 = enc l ∧ g 1 = enc m ∧ g 2 = .str b ∧ g 8 = .str ((dfA m l ++ dfB l (m.take i)).getLastD []) ∧
      g 9 = .int .i64 ((dfA m l ++ dfB l (m.take i)).length : Nat)) (by decide) (by omega) rfl (by omega) (by simp -dsimp only [go_sem, g0, g1, g2, g8, g9]; simp [show dfB l [] = [] from rfl]) ?_ ?_ ?_
    · rintro i g T hi gi ⟨g0, g1, g2, g8, g9⟩
      simp -dsimp only [go_sem, gi, g1]
    · rintro i g T hi gi ⟨g0, g1, g2, g8, g9⟩
      have hfl : (dfB l (m.take i)).length ≤ m.length := filt_len m i _ _
      have hfs := dfB_succ hi l
      have hw := wrapS (i := (dfA m l ++ dfB l (m.take i)).length) (by rw [List.length_append]; omega)
      simp -dsimp only [go_sem, gi, g0, g1, g2, ia_enc .i64 hi, ld_enc, c_mem, c_ofR h2 l _ (show l.length ≤ 9223372036854775807 by omega)]
      refine cnd_intro (fun h => ?_) (fun h => ?_) <;> simp only [Bool.not_eq_true', Bool.not_eq_false', decide_eq_true_eq, decide_eq_false_iff_not] at h
      · rw [if_pos h] at hfs
        simp -dsimp only [go_sem, gi, g0, g1, g2, g9, hw, ia_enc .i64 hi, ld_enc, c_mem]
        rw [hfs, ← List.append_assoc]
        refine ⟨by simp, congrArg _ ?_⟩
        have hw2 := hw
        simp only [List.length_append] at hw2
        first | rw [hw2] | rw [hw]
        simp only [List.length_append, List.length_singleton]
        first | done | omega
      · rw [if_neg h] at hfs
        simp -dsimp only [go_sem, gi, g0, g1, g2, g8, g9]
        rw [hfs]
        exact ⟨rfl, by simp⟩
    · rintro g T gi ⟨g0, g1, g2, g8, g9⟩
      rw [List.take_length] at g8 g9
      replace g8 : g 8 = .str ((differP l m).getLastD []) := g8
      replace g9 : g 9 = .int .i64 ((differP l m).length : Nat) := g9
      simp -dsimp only [go_sem, F21, g9]
      (refine cnd_intro (fun h => ?_) (fun h => ?_) <;> (try simp only [decide_eq_true_eq, decide_eq_false_iff_not, Bool.not_eq_true', Bool.not_eq_false', Bool.and_eq_true, Bool.or_eq_true, Bool.and_eq_false_iff, Bool.or_eq_false_iff, beq_iff_eq, beq_eq_false_iff_ne, ne_eq, Bool.not_eq_true, Bool.not_eq_false] at h) <;> simp -dsimp only [go_sem, *, F21])
      · simp only [r_stepR, stepRP, e1, e2, Bool.true_eq_false, or_self, if_false]; rw [if_pos (by omega)]
      have e3 : (differP l m).length = 1 := by omega
      clear h
      have hg : (differP l m).getLastD [] = (differP l m).headD [] := by rw [last_one e3]; rfl
      have hstep : r_stepR (l, m, b) = .tup [.bool (if ofP m ((differP l m).headD []) = 0 then (decide (revokeRP l b ((differP l m).headD []) = 0), revokeRP l b ((differP l m).headD []))
          else if ofP l ((differP l m).headD []) = 0 then (false, shareRP l b ((differP l m).headD []) (ofP m ((differP l m).headD []))) else (false, changeRP l b ((differP l m).headD []) (ofP m ((differP l m).headD [])))).1,
          .int .i64 (if ofP m ((differP l m).headD []) = 0 then (decide (revokeRP l b ((differP l m).headD []) = 0), revokeRP l b ((differP l m).headD []))
          else if ofP l ((differP l m).headD []) = 0 then (false, shareRP l b ((differP l m).headD []) (ofP m ((differP l m).headD []))) else (false, changeRP l b ((differP l m).headD []) (ofP m ((differP l m).headD [])))).2] := by
        simp only [r_stepR, stepRP, e1, e2, e3, Bool.true_eq_false, or_self, if_false, ne_eq, not_true_eq_false]
      simp only [hg] at g8 ⊢
      clear hg
      generalize (differP l m).headD [] = n at g8 hstep ⊢
      simp -dsimp only [go_sem, F21, g0, g1, g2, g8, c_ofR h2 m _ (show m.length ≤ 9223372036854775807 by omega), c_ofR h2 l _ (show l.length ≤ 9223372036854775807 by omega), hstep]
      (refine cnd_intro (fun h => ?_) (fun h => ?_) <;> (try simp only [decide_eq_true_eq, decide_eq_false_iff_not, Bool.not_eq_true', Bool.not_eq_false', Bool.and_eq_true, Bool.or_eq_true, Bool.and_eq_false_iff, Bool.or_eq_false_iff, beq_iff_eq, beq_eq_false_iff_ne, ne_eq, Bool.not_eq_true, Bool.not_eq_false] at h) <;> simp -dsimp only [go_sem, *, F21, g0, g1, g2, g8, c_revokeR h5 l b n hl1, c_ofR h2 l _ (show l.length ≤ 9223372036854775807 by omega)])
      have e4 := h
      clear h
      (refine cnd_intro (fun h => ?_) (fun h => ?_) <;> (try simp only [decide_eq_true_eq, decide_eq_false_iff_not, Bool.not_eq_true', Bool.not_eq_false', Bool.and_eq_true, Bool.or_eq_true, Bool.and_eq_false_iff, Bool.or_eq_false_iff, beq_iff_eq, beq_eq_false_iff_ne, ne_eq, Bool.not_eq_true, Bool.not_eq_false] at h) <;> simp -dsimp only [go_sem, *, F21, g0, g1, g2, g8, c_shareR h3 l b n _ hl1, c_changeR h4 l b n _ hl1])

theorem isort_two : isort ([⟨[97], 4⟩] ++ [⟨[98], 2⟩]) = [⟨[97], 4⟩, ⟨[98], 2⟩] := rfl
/-! ### the plain law -/
theorem owners_right {l : List Mem} (h : rightP l = true) : ownersP l = ownersRP l := by
  have h1 := ((right_iff l).1 h).1
  simp only [ownersP, withP, ownersRP, List.length_map]
  congr 1
  exact List.filter_congr fun m hm => by
    have := (h1 m hm).2
    simp only [isRole, decide_eq_true_eq] at this
    exact decide_eq_decide.2 (by omega)
theorem of_at {l : List Mem} (h : rightP l = true) (n : Str) : (atP l n < 0 ↔ ofP l n = 0) ∧ (0 ≤ atP l n ↔ 0 < ofP l n) := by
  rcases atP_spec l n with ⟨h1, h2, _⟩ | ⟨j, hj, h1, h2, _⟩
  · exact ⟨by omega, by omega⟩
  · have := (((right_iff l).1 h).1 _ (List.getElem_mem hj)).2
    simp only [isRole, decide_eq_true_eq] at this
    exact ⟨by omega, by omega⟩
theorem high_one (l : List Mem) (b : Str) (x : Int) : (highP l b [x] = true) ↔ (3 ≤ x ∧ ofP l b < 4) := by
  show (decide (3 ≤ x) && decide (ofP l b < 4)) = true ↔ _
  simp only [Bool.and_eq_true, decide_eq_true_eq]
theorem high_two (l : List Mem) (b : Str) (x y : Int) : (highP l b [x, y] = true) ↔ ((3 ≤ x ∨ 3 ≤ y) ∧ ofP l b < 4) := by
  show (decide (3 ≤ (if y > x then y else x)) && decide (ofP l b < 4)) = true ↔ _
  simp only [Bool.and_eq_true, decide_eq_true_eq]
  split <;> omega
theorem of_ge {l : List Mem} (h : rightP l = true) (n : Str) : 0 ≤ ofP l n ∧ ofP l n ≤ 4 := by
  rcases atP_spec l n with ⟨_, h2, _⟩ | ⟨j, hj, _, h2, _⟩
  · omega
  · have := (((right_iff l).1 h).1 _ (List.getElem_mem hj)).2
    simp only [isRole, decide_eq_true_eq] at this
    omega
theorem revoke_eq {l : List Mem} (h : rightP l = true) {n : Str} (hn : nameOk n = true) (b : Str) : (revokeP l b n).2 = revokeRP l b n := by
  have h1 := (of_at h n).1
  have h2 := owners_right h
  have h4 := of_ge h n
  simp only [revokeP, revokeRP, h, hn, Bool.true_eq_false, or_self, if_false, h1, h2, high_one]
  by_cases hb : b = n
  · simp only [hb, ne_eq, not_true_eq_false, false_and, if_false]
    repeat' split
    all_goals first | rfl | (exfalso; omega)
  · simp only [ne_eq, hb, not_false_eq_true, true_and]
    repeat' split
    all_goals first | rfl | (exfalso; omega)
theorem share_eq {l : List Mem} (h : rightP l = true) {n : Str} (hn : nameOk n = true) {r : Int} (hr : isRole r = true) (b : Str) : (shareP l b n r).2 = shareRP l b n r := by
  have h1 := (of_at h n).2
  have h3 := (right_len h).1
  have h4 := of_ge h n
  simp only [shareP, shareRP, h, hn, hr, Bool.true_eq_false, or_self, if_false, high_one, h1]
  repeat' split
  all_goals first | rfl | (exfalso; omega)
theorem change_eq {l : List Mem} (h : rightP l = true) {n : Str} (hn : nameOk n = true) {r : Int} (hr : isRole r = true) (b : Str) : (changeP l b n r).2 = changeRP l b n r := by
  have h1 := (of_at h n).1
  have h2 := owners_right h
  simp only [changeP, changeRP, h, hn, hr, Bool.true_eq_false, or_self, if_false, h1, h2, high_two]
  repeat' split
  all_goals first | rfl | (exfalso; omega)
theorem step_eq (l m : List Mem) (b : Str) : stepP l m b = stepRP l m b := by
  unfold stepP stepRP
  split
  · rfl
  rename_i h
  simp only [not_or, Bool.not_eq_false] at h
  split
  · rfl
  rename_i h3
  have h3 : (differP l m).length = 1 := by omega
  have hz : 0 < (differP l m).length := by omega
  have hmem : (differP l m).headD [] ∈ differP l m := by rw [← head0 hz]; exact List.getElem_mem hz
  have hn : nameOk ((differP l m).headD []) = true := by
    rcases differ_name hmem with ⟨x, hx, e⟩ | ⟨x, hx, e⟩
    · rw [← e]; exact (((right_iff l).1 h.1).1 x hx).1
    · rw [← e]; exact (((right_iff m).1 h.2).1 x hx).1
  generalize (differP l m).headD [] = n at hn
  have hof : ofP m n ≠ 0 → isRole (ofP m n) = true := fun hne => by
    rcases atP_spec m n with ⟨_, h2, _⟩ | ⟨j, hj, _, h2, _⟩
    · exact absurd h2 hne
    · rw [h2]; exact (((right_iff m).1 h.2).1 _ (List.getElem_mem hj)).2
  simp only [stepE]
  by_cases h0 : ofP m n = 0
  · simp only [h0, if_true, decide_true, Bool.true_and, revoke_eq h.1 hn]
  · simp only [h0, if_false, decide_false, Bool.false_and]
    have := of_at h.1 n
    by_cases ha : ofP l n = 0
    · rw [if_pos ha, if_pos (this.1.2 ha), share_eq h.1 hn (hof h0)]
    · rw [if_neg ha, if_neg (fun q => ha (this.1.1 q)), change_eq h.1 hn (hof h0)]

end Go.Proofs.Ytmijfhepagobdaa.Avm
