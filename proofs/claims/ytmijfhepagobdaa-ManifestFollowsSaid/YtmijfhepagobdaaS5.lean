/- Specs: sharing, changing, revoking. -/
import Derived.Test.YtmijfhepagobdaaS4
set_option linter.unusedVariables false
set_option linter.unusedSimpArgs false
namespace Go.Proofs.Ytmijfhepagobdaa.Avm

/-- the sorting of members, as it is called -/
def SortOK (E : Env) : Prop := ∀ (x0 : Mem) (l0 : List Mem) (id : Nat) (S : Store), S[id]? = some (.cells (cl (x0 :: l0))) → l0.length ≤ 11 → Is E 55 [.sl id 0 (l0.length + 1) 2, .fn 56 []] S (.tup []) (S.set id (.cells (cl (isort (x0 :: l0)))))
def DelOK (E : Env) : Prop := ∀ (l : List Mem) (i : Nat) (_ : i < l.length) (_ : l.length ≤ 1000000) (id : Nat) (S : Store), S[id]? = some (.cells (cl l)) →
    Is E 51 [.sl id 0 l.length 2, .int .i64 i, .int .i64 ((i + 1 : Nat) : Int)] S (.sl id 0 (l.length - 1) 2) (S.set id (.cells (cl (l.eraseIdx i) ++ [.str [], .int .i64 0])))

theorem right_len {l : List Mem} (h : rightP l = true) : l.length ≤ 8 ∧ l ≠ [] := by
  simp only [rightP, Bool.and_eq_true, decide_eq_true_eq] at h
  refine ⟨h.1.2, fun e => ?_⟩
  subst e; simp [ownersP, withP] at h
theorem nilPair (n : Int) (S : Store) : Conv S S (.tup [.nilS, .int .i64 n]) S (.tup [enc ([] : List Mem), .int .i64 n]) :=
  Conv.good List.prefix_rfl (fun i h => by simp [topIds, topIdsL] at h) rfl

theorem ok_share {E : Env} (hp : E.prim 38 = none) (hf : E.F 38 = some F38) (h1 : E.prim 33 = some fun _ => p_right) (h2 : E.prim 32 = some fun _ => p_name) (h3 : E.prim 48 = some fun _ => p_is)
    (h4 : E.prim 34 = some fun _ => p_of) (h5 : E.prim 37 = some fun _ => p_at) (h6 : E.prim 50 = some fun _ => p_high) (h7 : E.prim 52 = some fun _ => p_clone) (hs : SortOK E) : OkG E 38 e_share (gd k_share r_share) := by
  refine OkG.code hp hf (fun _ => rfl) fun ⟨l, b, n, r⟩ S ⟨⟨hk, hk'⟩, hn⟩ => ?_
  have nil2 : ∀ (c : Int), shareP l b n r = ([], c) → Conv S S (.tup [.nilS, .int .i64 c]) S (r_share (l, b, n, r)) := fun c h => by simp only [r_share, h]; exact nilPair c S
  simp -dsimp only [go_sem, F38, e_share, c_right h1 l ⟨hk, hk'⟩]
  (refine cnd_intro (fun h => ?_) (fun h => ?_) <;> (try simp only [decide_eq_true_eq, decide_eq_false_iff_not, Bool.not_eq_true', Bool.not_eq_false', Bool.and_eq_true, Bool.or_eq_true, Bool.and_eq_false_iff, Bool.or_eq_false_iff, beq_iff_eq, beq_eq_false_iff_ne, ne_eq, Bool.not_eq_true, Bool.not_eq_false] at h) <;> simp -dsimp only [go_sem, *, c_name h2 n hn, F38])
  · have e1 := h
    (refine cnd_intro (fun h => ?_) (fun h => ?_) <;> (try simp only [decide_eq_true_eq, decide_eq_false_iff_not, Bool.not_eq_true', Bool.not_eq_false', Bool.and_eq_true, Bool.or_eq_true, Bool.and_eq_false_iff, Bool.or_eq_false_iff, beq_iff_eq, beq_eq_false_iff_ne, ne_eq, Bool.not_eq_true, Bool.not_eq_false] at h) <;> simp -dsimp only [go_sem, *, c_is h3, F38])
    · have e2 := h
      (refine cnd_intro (fun h => ?_) (fun h => ?_) <;> (try simp only [decide_eq_true_eq, decide_eq_false_iff_not, Bool.not_eq_true', Bool.not_eq_false', Bool.and_eq_true, Bool.or_eq_true, Bool.and_eq_false_iff, Bool.or_eq_false_iff, beq_iff_eq, beq_eq_false_iff_ne, ne_eq, Bool.not_eq_true, Bool.not_eq_false] at h) <;> simp -dsimp only [go_sem, *, c_of h4 l b hk, F38])
      · exact nil2 _ (by simp only [shareP, h, or_true, if_true])
      · have e3 := h
        (refine cnd_intro (fun h => ?_) (fun h => ?_) <;> (try simp only [decide_eq_true_eq, decide_eq_false_iff_not, Bool.not_eq_true', Bool.not_eq_false', Bool.and_eq_true, Bool.or_eq_true, Bool.and_eq_false_iff, Bool.or_eq_false_iff, beq_iff_eq, beq_eq_false_iff_ne, ne_eq, Bool.not_eq_true, Bool.not_eq_false] at h) <;> simp -dsimp only [go_sem, *, F38])
        · exact nil2 _ (by simp only [shareP, e1, e2, e3, h, Bool.true_eq_false, or_self, if_true, if_false])
        · have e4 := h
          simp -dsimp only [go_sem, c_at h5 l n hk]
          (refine cnd_intro (fun h => ?_) (fun h => ?_) <;> (try simp only [decide_eq_true_eq, decide_eq_false_iff_not, Bool.not_eq_true', Bool.not_eq_false', Bool.and_eq_true, Bool.or_eq_true, Bool.and_eq_false_iff, Bool.or_eq_false_iff, beq_iff_eq, beq_eq_false_iff_ne, ne_eq, Bool.not_eq_true, Bool.not_eq_false] at h) <;> simp -dsimp only [go_sem, *, F38])
          · exact nil2 _ (by simp only [shareP, e1, e2, e3, e4, h, Bool.true_eq_false, or_self, if_true, if_false])
          · have e5 := h
            simp -dsimp only [go_sem, c_high h6 l b [r] ⟨hk, by simp, by simp⟩]
            (refine cnd_intro (fun h => ?_) (fun h => ?_) <;> (try simp only [decide_eq_true_eq, decide_eq_false_iff_not, Bool.not_eq_true', Bool.not_eq_false', Bool.and_eq_true, Bool.or_eq_true, Bool.and_eq_false_iff, Bool.or_eq_false_iff, beq_iff_eq, beq_eq_false_iff_ne, ne_eq, Bool.not_eq_true, Bool.not_eq_false] at h) <;> simp -dsimp only [go_sem, *, F38])
            · exact nil2 _ (by simp only [shareP, e1, e2, e3, e4, e5, h, Bool.true_eq_false, or_self, if_true, if_false])
            · have e6 := h
              (refine cnd_intro (fun h => ?_) (fun h => ?_) <;> (try simp only [decide_eq_true_eq, decide_eq_false_iff_not, Bool.not_eq_true', Bool.not_eq_false', Bool.and_eq_true, Bool.or_eq_true, Bool.and_eq_false_iff, Bool.or_eq_false_iff, beq_iff_eq, beq_eq_false_iff_ne, ne_eq, Bool.not_eq_true, Bool.not_eq_false] at h) <;> simp -dsimp only [go_sem, *, F38])
              · exact nil2 _ (by simp only [shareP, e1, e2, e3, e4, e5, e6, Bool.true_eq_false, Bool.false_eq_true, or_self, if_true, if_false]; rw [if_pos (by omega)])
              · obtain ⟨hl8, hne⟩ := right_len e1
                have hl0 : l.length ≠ 0 := fun e => hne (List.eq_nil_of_length_eq_zero e)
                obtain ⟨x0, l0, hl⟩ : ∃ x0 l0, l ++ [⟨n, r⟩] = x0 :: l0 := by cases l with | nil => exact absurd rfl hne | cons a l => exact ⟨a, l ++ [⟨n, r⟩], rfl⟩
                have hl0' : l0.length = l.length := by have := congrArg List.length hl; simp at this; omega
                have hO : OwnL S (S ++ [.cells (cl l)]) (.sl S.length 0 l.length 2) l := ⟨List.prefix_append _ _, cl_len l, .inr ⟨S.length, Nat.le_refl _, rfl, by rw [get_new0]; rfl⟩⟩
                simp -dsimp only [go_sem, call_clone h7 l hk hl0, F38]
                refine OwnL.app hO rfl (el_enc _ rfl) (by simp; omega) fun x T hO' _ _ => ?_
                rw [hl] at hO'
                obtain ⟨hpre, hcl, ⟨_, h0⟩ | ⟨id, hid, rfl, hT⟩⟩ := hO'
                · simp at h0
                have hlen := (List.getElem?_eq_some_iff.1 hT).1
                have hs' := hs x0 l0 id T hT (by omega)
                simp -dsimp only [go_sem, F38, hs'.spD, r_share]
                have hres : shareP l b n r = (isort (x0 :: l0), 0) := by
                  simp only [shareP, e1, e2, e3, e4, e5, e6, Bool.true_eq_false, Bool.false_eq_true, or_self, if_false, hl]; rw [if_neg (by omega)]
                rw [hres]
                refine conv_pair (prefix_set hpre hid _) (fun i hi => by simp [topIds] at hi; omega) (rd_own (rest := []) ?_ ?_ rfl)
                · rw [List.getElem?_set_self hlen, List.append_nil]
                · rw [isort, isortG_len]; simp; omega
    · exact nil2 _ (by simp only [shareP, h, true_or, or_true, if_true])
  · exact nil2 _ (by simp only [shareP, h, true_or, if_true])

theorem ok_change {E : Env} (hp : E.prim 39 = none) (hf : E.F 39 = some F39) (h1 : E.prim 33 = some fun _ => p_right) (h2 : E.prim 32 = some fun _ => p_name) (h3 : E.prim 48 = some fun _ => p_is)
    (h4 : E.prim 34 = some fun _ => p_of) (h5 : E.prim 37 = some fun _ => p_at) (h6 : E.prim 50 = some fun _ => p_high) (h7 : E.prim 52 = some fun _ => p_clone) (h8 : E.prim 49 = some fun _ => p_owners) : OkG E 39 e_change (gd k_change r_change) := by
  refine OkG.code hp hf (fun _ => rfl) fun ⟨l, b, n, r⟩ S ⟨⟨hk, hk'⟩, hn⟩ => ?_
  have nil2 : ∀ (c : Int), changeP l b n r = ([], c) → Conv S S (.tup [.nilS, .int .i64 c]) S (r_change (l, b, n, r)) := fun c h => by simp only [r_change, h]; exact nilPair c S
  simp -dsimp only [go_sem, F39, e_change, c_right h1 l ⟨hk, hk'⟩, c_at h5 l n hk]
  (refine cnd_intro (fun h => ?_) (fun h => ?_) <;> (try simp only [decide_eq_true_eq, decide_eq_false_iff_not, Bool.not_eq_true', Bool.not_eq_false', Bool.and_eq_true, Bool.or_eq_true, Bool.and_eq_false_iff, Bool.or_eq_false_iff, beq_iff_eq, beq_eq_false_iff_ne, ne_eq, Bool.not_eq_true, Bool.not_eq_false] at h) <;> simp -dsimp only [go_sem, *, c_name h2 n hn, F39])
  rotate_left
  · exact nil2 _ (by simp only [changeP, h, true_or, if_true])
  have e1 := h
  (refine cnd_intro (fun h => ?_) (fun h => ?_) <;> (try simp only [decide_eq_true_eq, decide_eq_false_iff_not, Bool.not_eq_true', Bool.not_eq_false', Bool.and_eq_true, Bool.or_eq_true, Bool.and_eq_false_iff, Bool.or_eq_false_iff, beq_iff_eq, beq_eq_false_iff_ne, ne_eq, Bool.not_eq_true, Bool.not_eq_false] at h) <;> simp -dsimp only [go_sem, *, c_is h3, F39])
  rotate_left
  · exact nil2 _ (by simp only [changeP, h, true_or, or_true, if_true])
  have e2 := h
  (refine cnd_intro (fun h => ?_) (fun h => ?_) <;> (try simp only [decide_eq_true_eq, decide_eq_false_iff_not, Bool.not_eq_true', Bool.not_eq_false', Bool.and_eq_true, Bool.or_eq_true, Bool.and_eq_false_iff, Bool.or_eq_false_iff, beq_iff_eq, beq_eq_false_iff_ne, ne_eq, Bool.not_eq_true, Bool.not_eq_false] at h) <;> simp -dsimp only [go_sem, *, c_of h4 l b hk, F39])
  · exact nil2 _ (by simp only [changeP, h, or_true, if_true])
  have e3 := h
  (refine cnd_intro (fun h => ?_) (fun h => ?_) <;> (try simp only [decide_eq_true_eq, decide_eq_false_iff_not, Bool.not_eq_true', Bool.not_eq_false', Bool.and_eq_true, Bool.or_eq_true, Bool.and_eq_false_iff, Bool.or_eq_false_iff, beq_iff_eq, beq_eq_false_iff_ne, ne_eq, Bool.not_eq_true, Bool.not_eq_false] at h) <;> simp -dsimp only [go_sem, *, F39])
  · exact nil2 _ (by simp only [changeP, e1, e2, e3, h, Bool.true_eq_false, or_self, if_true, if_false])
  have e4 := h
  (refine cnd_intro (fun h => ?_) (fun h => ?_) <;> (try simp only [decide_eq_true_eq, decide_eq_false_iff_not, Bool.not_eq_true', Bool.not_eq_false', Bool.and_eq_true, Bool.or_eq_true, Bool.and_eq_false_iff, Bool.or_eq_false_iff, beq_iff_eq, beq_eq_false_iff_ne, ne_eq, Bool.not_eq_true, Bool.not_eq_false] at h) <;> simp -dsimp only [go_sem, *, F39])
  · exact nil2 _ (by simp only [changeP, e1, e2, e3, e4, h, Bool.true_eq_false, or_self, if_true, if_false])
  have e5 := h
  rcases atP_spec l n with ⟨q1, _⟩ | ⟨j, hj, q1, q2', q3, _⟩
  · omega
  have q2 := q2'.symm
  clear q2'
  simp -dsimp only [go_sem, q1, ia_enc .i64 hj, ld_enc, c_mem, q2, c_high h6 l b [r, ofP l n] ⟨hk, by simp, by simp⟩]
  (refine cnd_intro (fun h => ?_) (fun h => ?_) <;> (try simp only [decide_eq_true_eq, decide_eq_false_iff_not, Bool.not_eq_true', Bool.not_eq_false', Bool.and_eq_true, Bool.or_eq_true, Bool.and_eq_false_iff, Bool.or_eq_false_iff, beq_iff_eq, beq_eq_false_iff_ne, ne_eq, Bool.not_eq_true, Bool.not_eq_false] at h) <;> simp -dsimp only [go_sem, *, F39, q1, ia_enc .i64 hj, ld_enc, c_mem])
  · exact nil2 _ (by simp only [changeP, e1, e2, e3, e4, e5, h, Bool.true_eq_false, or_self, if_true, if_false])
  have e6 := h
  obtain ⟨hl8, hne⟩ := right_len e1
  have hl0 : l.length ≠ 0 := fun e => hne (List.eq_nil_of_length_eq_zero e)
  have hst : stO (S ++ [.cells (cl l)]) S.length 1 (j * 2 + 1) (.int .i64 r) (.cells (cl l)) = some (.undef, S ++ [.cells (cl (l.set j ⟨n, r⟩))]) := by
    have := stO_cl1 (S := S ++ [.cells (cl l)]) (id := S.length) (v := .int .i64 r) (a := (⟨n, r⟩ : Mem)) (k := 1) hj rfl (by decide) rfl (by rw [c_mem, c_mem, q3]; rfl)
    rw [set_new0] at this; exact this
  have fin : changeP l b n r = (l.set j ⟨n, r⟩, 0) → Conv S (S ++ [.cells (cl (l.set j ⟨n, r⟩))]) (.tup [.sl S.length 0 l.length 2, .int .i64 0]) S (r_change (l, b, n, r)) := fun h => by
    simp only [r_change, h]
    refine conv_pair (List.prefix_append _ _) (fun i hi => by simp [topIds] at hi; omega) (rd_own (rest := []) ?_ (by simp) rfl)
    rw [get_new0, List.append_nil]; rfl
  have res : ¬ (ofP l n = 4 ∧ r < 4 ∧ ownersP l = 1) → changeP l b n r = (l.set j ⟨n, r⟩, 0) := fun h => by
    simp only [changeP, e1, e2, e3, e4, e5, e6, h, Bool.true_eq_false, Bool.false_eq_true, or_self, if_false, q1, Int.toNat_natCast]
    rw [if_neg (by omega)]
  (refine cnd_intro (fun h => ?_) (fun h => ?_) <;> (try simp only [decide_eq_true_eq, decide_eq_false_iff_not, Bool.not_eq_true', Bool.not_eq_false', Bool.and_eq_true, Bool.or_eq_true, Bool.and_eq_false_iff, Bool.or_eq_false_iff, beq_iff_eq, beq_eq_false_iff_ne, ne_eq, Bool.not_eq_true, Bool.not_eq_false] at h) <;> simp -dsimp only [go_sem, *, F39, call_clone h7 l hk hl0, ia_slE .i64 hj, hst])
  · (refine cnd_intro (fun h => ?_) (fun h => ?_) <;> (try simp only [decide_eq_true_eq, decide_eq_false_iff_not, Bool.not_eq_true', Bool.not_eq_false', Bool.and_eq_true, Bool.or_eq_true, Bool.and_eq_false_iff, Bool.or_eq_false_iff, beq_iff_eq, beq_eq_false_iff_ne, ne_eq, Bool.not_eq_true, Bool.not_eq_false] at h) <;> simp -dsimp only [go_sem, *, F39, call_clone h7 l hk hl0, ia_slE .i64 hj, hst, c_owners h8 l hk])
    · (refine cnd_intro (fun h => ?_) (fun h => ?_) <;> (try simp only [decide_eq_true_eq, decide_eq_false_iff_not, Bool.not_eq_true', Bool.not_eq_false', Bool.and_eq_true, Bool.or_eq_true, Bool.and_eq_false_iff, Bool.or_eq_false_iff, beq_iff_eq, beq_eq_false_iff_ne, ne_eq, Bool.not_eq_true, Bool.not_eq_false] at h) <;> simp -dsimp only [go_sem, *, F39, call_clone h7 l hk hl0, ia_slE .i64 hj, hst])
      · exact nil2 _ (by simp only [changeP, e1, e2, e3, e4, e5, e6, Bool.true_eq_false, Bool.false_eq_true, or_self, if_false]; rw [if_pos (by omega)])
      · exact fin (res (by omega))
    · exact fin (res (by omega))
  · exact fin (res (by omega))

theorem ok_revoke {E : Env} (hp : E.prim 36 = none) (hf : E.F 36 = some F36) (h1 : E.prim 33 = some fun _ => p_right) (h2 : E.prim 32 = some fun _ => p_name)
    (h4 : E.prim 34 = some fun _ => p_of) (h5 : E.prim 37 = some fun _ => p_at) (h6 : E.prim 50 = some fun _ => p_high) (h7 : E.prim 52 = some fun _ => p_clone) (h8 : E.prim 49 = some fun _ => p_owners) (hd : DelOK E) : OkG E 36 e_revoke (gd k_revoke r_revoke) := by
  refine OkG.code hp hf (fun _ => rfl) fun ⟨l, b, n⟩ S ⟨⟨hk, hk'⟩, hn⟩ => ?_
  have nil2 : ∀ (c : Int), revokeP l b n = ([], c) → Conv S S (.tup [.nilS, .int .i64 c]) S (r_revoke (l, b, n)) := fun c h => by simp only [r_revoke, h]; exact nilPair c S
  simp -dsimp only [go_sem, F36, e_revoke, c_right h1 l ⟨hk, hk'⟩, c_at h5 l n hk]
  (refine cnd_intro (fun h => ?_) (fun h => ?_) <;> (try simp only [decide_eq_true_eq, decide_eq_false_iff_not, Bool.not_eq_true', Bool.not_eq_false', Bool.and_eq_true, Bool.or_eq_true, Bool.and_eq_false_iff, Bool.or_eq_false_iff, beq_iff_eq, beq_eq_false_iff_ne, ne_eq, Bool.not_eq_true, Bool.not_eq_false] at h) <;> simp -dsimp only [go_sem, *, c_name h2 n hn, F36])
  rotate_left
  · exact nil2 _ (by simp only [revokeP, h, true_or, if_true])
  have e1 := h
  (refine cnd_intro (fun h => ?_) (fun h => ?_) <;> (try simp only [decide_eq_true_eq, decide_eq_false_iff_not, Bool.not_eq_true', Bool.not_eq_false', Bool.and_eq_true, Bool.or_eq_true, Bool.and_eq_false_iff, Bool.or_eq_false_iff, beq_iff_eq, beq_eq_false_iff_ne, ne_eq, Bool.not_eq_true, Bool.not_eq_false] at h) <;> simp -dsimp only [go_sem, *, F36])
  · exact nil2 _ (by simp only [revokeP, h, or_true, if_true])
  have e2 := h
  obtain ⟨hl8, hne⟩ := right_len e1
  have hl0 : l.length ≠ 0 := fun e => hne (List.eq_nil_of_length_eq_zero e)
  have fin : ∀ j : Nat, ∀ hj : j < l.length, revokeP l b n = (l.eraseIdx j, 0) → Conv S (S ++ [.cells (cl (l.eraseIdx j) ++ [.str [], .int .i64 0])]) (.tup [.sl S.length 0 (l.length - 1) 2, .int .i64 0]) S (r_revoke (l, b, n)) := fun j hj h => by
    simp only [r_revoke, h]
    refine conv_pair (List.prefix_append _ _) (fun i hi => by simp [topIds] at hi; omega) (rd_own (rest := [.str [], .int .i64 0]) ?_ (by rw [List.length_eraseIdx, if_pos hj]) rfl)
    rw [get_new0]; rfl
  have dl : ∀ j : Nat, ∀ hj : j < l.length, Is E 51 [.sl S.length 0 l.length 2, .int .i64 j, .int .i64 ((j + 1 : Nat) : Int)] (S ++ [.cells (cl l)]) (.sl S.length 0 (l.length - 1) 2) (S ++ [.cells (cl (l.eraseIdx j) ++ [.str [], .int .i64 0])]) := fun j hj => by
    have := hd l j hj hk S.length (S ++ [.cells (cl l)]) (by rw [get_new0]; rfl)
    rw [set_new0] at this; exact this
  rcases Classical.em (b = n) with rfl | hb
  · simp -dsimp only [go_sem, F36]
    (refine cnd_intro (fun h => ?_) (fun h => ?_) <;> (try simp only [decide_eq_true_eq, decide_eq_false_iff_not, Bool.not_eq_true', Bool.not_eq_false', Bool.and_eq_true, Bool.or_eq_true, Bool.and_eq_false_iff, Bool.or_eq_false_iff, beq_iff_eq, beq_eq_false_iff_ne, ne_eq, Bool.not_eq_true, Bool.not_eq_false] at h) <;> simp -dsimp only [go_sem, *, F36])
    · exact nil2 _ (by simp only [revokeP, e1, e2, eq_self, h, Bool.true_eq_false, ne_eq, not_true_eq_false, false_and, or_self, if_true, if_false])
    have e5 := h
    rcases atP_spec l b with ⟨q1, _⟩ | ⟨j, hj, q1, q2', q3, _⟩
    · omega
    have q2 := q2'.symm
    clear q2'
    have hw := wrapS (i := j) (by omega)
    have res : ¬ (ofP l b = 4 ∧ ownersP l = 1) → revokeP l b b = (l.eraseIdx j, 0) := fun h => by
      simp only [revokeP, e1, e2, eq_self, h, Bool.true_eq_false, ne_eq, not_true_eq_false, false_and, or_self, if_false, q1, Int.toNat_natCast]
      rw [if_neg (by omega)]
    simp -dsimp only [go_sem, q1, ia_enc .i64 hj, ld_enc, c_mem, q2]
    (refine cnd_intro (fun h => ?_) (fun h => ?_) <;> (try simp only [decide_eq_true_eq, decide_eq_false_iff_not, Bool.not_eq_true', Bool.not_eq_false', Bool.and_eq_true, Bool.or_eq_true, Bool.and_eq_false_iff, Bool.or_eq_false_iff, beq_iff_eq, beq_eq_false_iff_ne, ne_eq, Bool.not_eq_true, Bool.not_eq_false] at h) <;> simp -dsimp only [go_sem, *, F36, call_clone h7 l hk hl0, c_owners h8 l hk, (dl j hj).spD])
    · (refine cnd_intro (fun h => ?_) (fun h => ?_) <;> (try simp only [decide_eq_true_eq, decide_eq_false_iff_not, Bool.not_eq_true', Bool.not_eq_false', Bool.and_eq_true, Bool.or_eq_true, Bool.and_eq_false_iff, Bool.or_eq_false_iff, beq_iff_eq, beq_eq_false_iff_ne, ne_eq, Bool.not_eq_true, Bool.not_eq_false] at h) <;> simp -dsimp only [go_sem, *, F36, call_clone h7 l hk hl0, (dl j hj).spD])
      · exact nil2 _ (by simp only [revokeP, e1, e2, eq_self, Bool.true_eq_false, ne_eq, not_true_eq_false, false_and, or_self, if_false]; rw [if_neg (by omega), if_pos (by omega)])
      · exact fin j hj (res (by omega))
    · exact fin j hj (res (by omega))
  · simp -dsimp only [go_sem, F36, hb, c_of h4 l b hk]
    (refine cnd_intro (fun h => ?_) (fun h => ?_) <;> (try simp only [decide_eq_true_eq, decide_eq_false_iff_not, Bool.not_eq_true', Bool.not_eq_false', Bool.and_eq_true, Bool.or_eq_true, Bool.and_eq_false_iff, Bool.or_eq_false_iff, beq_iff_eq, beq_eq_false_iff_ne, ne_eq, Bool.not_eq_true, Bool.not_eq_false] at h) <;> simp -dsimp only [go_sem, *, F36, hb])
    · exact nil2 _ (by simp only [revokeP, e1, e2, hb, h, Bool.true_eq_false, ne_eq, not_false_eq_true, true_and, or_self, if_true, if_false])
    have e4 := h
    (refine cnd_intro (fun h => ?_) (fun h => ?_) <;> (try simp only [decide_eq_true_eq, decide_eq_false_iff_not, Bool.not_eq_true', Bool.not_eq_false', Bool.and_eq_true, Bool.or_eq_true, Bool.and_eq_false_iff, Bool.or_eq_false_iff, beq_iff_eq, beq_eq_false_iff_ne, ne_eq, Bool.not_eq_true, Bool.not_eq_false] at h) <;> simp -dsimp only [go_sem, *, F36, hb])
    · exact nil2 _ (by simp only [revokeP, e1, e2, e4, hb, h, Bool.true_eq_false, ne_eq, not_false_eq_true, true_and, or_self, if_true, if_false])
    have e5 := h
    rcases atP_spec l n with ⟨q1, _⟩ | ⟨j, hj, q1, q2', q3, _⟩
    · omega
    have q2 := q2'.symm
    clear q2'
    have hw := wrapS (i := j) (by omega)
    simp -dsimp only [go_sem, q1, ia_enc .i64 hj, ld_enc, c_mem, q2, hb, c_high h6 l b [ofP l n] ⟨hk, by simp, by simp⟩]
    (refine cnd_intro (fun h => ?_) (fun h => ?_) <;> (try simp only [decide_eq_true_eq, decide_eq_false_iff_not, Bool.not_eq_true', Bool.not_eq_false', Bool.and_eq_true, Bool.or_eq_true, Bool.and_eq_false_iff, Bool.or_eq_false_iff, beq_iff_eq, beq_eq_false_iff_ne, ne_eq, Bool.not_eq_true, Bool.not_eq_false] at h) <;> simp -dsimp only [go_sem, *, F36, q1, ia_enc .i64 hj, ld_enc, c_mem])
    · exact nil2 _ (by simp only [revokeP, e1, e2, e4, hb, e5, h, Bool.true_eq_false, ne_eq, not_false_eq_true, true_and, or_self, if_true, if_false])
    have e6 := h
    have res : ¬ (ofP l n = 4 ∧ ownersP l = 1) → revokeP l b n = (l.eraseIdx j, 0) := fun h => by
      simp only [revokeP, e1, e2, e4, e6, hb, h, Bool.true_eq_false, Bool.false_eq_true, ne_eq, not_false_eq_true, true_and, or_self, if_false, q1, Int.toNat_natCast]
      rw [if_neg (by omega)]
    (refine cnd_intro (fun h => ?_) (fun h => ?_) <;> (try simp only [decide_eq_true_eq, decide_eq_false_iff_not, Bool.not_eq_true', Bool.not_eq_false', Bool.and_eq_true, Bool.or_eq_true, Bool.and_eq_false_iff, Bool.or_eq_false_iff, beq_iff_eq, beq_eq_false_iff_ne, ne_eq, Bool.not_eq_true, Bool.not_eq_false] at h) <;> simp -dsimp only [go_sem, *, F36, call_clone h7 l hk hl0, c_owners h8 l hk, (dl j hj).spD])
    · (refine cnd_intro (fun h => ?_) (fun h => ?_) <;> (try simp only [decide_eq_true_eq, decide_eq_false_iff_not, Bool.not_eq_true', Bool.not_eq_false', Bool.and_eq_true, Bool.or_eq_true, Bool.and_eq_false_iff, Bool.or_eq_false_iff, beq_iff_eq, beq_eq_false_iff_ne, ne_eq, Bool.not_eq_true, Bool.not_eq_false] at h) <;> simp -dsimp only [go_sem, *, F36, call_clone h7 l hk hl0, (dl j hj).spD])
      · exact nil2 _ (by simp only [revokeP, e1, e2, e4, e6, hb, Bool.true_eq_false, Bool.false_eq_true, ne_eq, not_false_eq_true, true_and, or_self, if_false]; rw [if_neg (by omega), if_pos (by omega)])
      · exact fin j hj (res (by omega))
    · exact fin j hj (res (by omega))
end Go.Proofs.Ytmijfhepagobdaa.Avm
