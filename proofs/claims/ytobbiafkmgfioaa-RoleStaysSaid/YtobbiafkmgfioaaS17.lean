/- Specs: the law of staying right. -/
import Derived.Test.YtobbiafkmgfioaaS16
set_option linter.unusedVariables false
set_option linter.unusedSimpArgs false
set_option maxRecDepth 10000
namespace Go.Proofs.Ytobbiafkmgfioaa.Avm

theorem first_right {s : Str} (h : nameOk s = true) : rightP [⟨s, 4⟩] = true := by
  simp only [rightP, okFrom, h, ltO, ownersP, withP]; rfl
theorem right_end {l : List Mem} (h : rightP l = true) : 0 < (withP l 4).length ∧ (withP l 0).length = l.length := by
  refine ⟨?_, ?_⟩
  · simp only [rightP, Bool.and_eq_true, ownersP] at h; exact of_decide_eq_true h.2
  · simp only [withP, List.length_map]
    rw [List.filter_eq_self.2 fun m hm => ?_]
    have := (((right_iff l).1 h).1 m hm).2
    simp only [isRole, decide_eq_true_eq] at this ⊢
    omega

theorem ok_roleStays {E : Env} (hp : E.prim 11 = none) (hf : E.F 11 = some F11) (h1 : E.prim 59 = some fun _ => p_awake27)
    (h4 : E.prim 62 = some fun _ => p_share) (h5 : E.prim 63 = some fun _ => p_change) (h6 : E.prim 64 = some fun _ => p_revoke)
    (h7 : E.prim 65 = some fun _ => p_right) (h8 : E.prim 66 = some fun _ => p_of) (h9 : E.prim 73 = some fun _ => p_step) (h10 : E.prim 38 = some fun _ => p_nameR) (h11 : E.prim 75 = some fun _ => p_with) :
    OkS E 11 e_roleStays (gd k_roleStays r_roleStays) := by
  rw [F11_eq] at hf
  refine OkS.code hp hf (fun _ => rfl) fun ⟨s, l⟩ ⟨hs, hl⟩ => ?_
  have hs : s.length ≤ 9223372036854775807 := hs
  have hl : l.length ≤ 9223372036854775807 := hl
  simp -dsimp only [go_sem, F11s, e_roleStays, r_roleStays, c_awake27 h1, c_nameR h10 s hs]
  (refine cnd_intro (fun h => ?_) (fun h => ?_) <;> (try simp only [decide_eq_true_eq, decide_eq_false_iff_not, Bool.not_eq_true', Bool.not_eq_false', Bool.and_eq_true, Bool.or_eq_true, Bool.and_eq_false_iff, Bool.or_eq_false_iff, beq_iff_eq, beq_eq_false_iff_ne, ne_eq, Bool.not_eq_true, Bool.not_eq_false] at h) <;> simp -dsimp only [go_sem, *, F11s, r_roleStays])
  have hn := first_right h
  clear h
  (refine cnd_intro (fun h => ?_) (fun h => ?_) <;> (try simp only [decide_eq_true_eq, decide_eq_false_iff_not, Bool.not_eq_true', Bool.not_eq_false', Bool.and_eq_true, Bool.or_eq_true, Bool.and_eq_false_iff, Bool.or_eq_false_iff, beq_iff_eq, beq_eq_false_iff_ne, ne_eq, Bool.not_eq_true, Bool.not_eq_false] at h) <;> simp -dsimp only [go_sem, *, F11s, r_roleStays])
  clear h
  refine Ex.range (n := l.length) (fun i g T => g 1 = enc l ∧ g 30 = enc l ∧ ∃ now, rightP now = true ∧ g 5 = enc now) (by decide) (by omega) rfl rfl ⟨rfl, rfl, _, hn, rfl⟩ ?_ ?_
  · rintro i g T hi gi gn ⟨g1, g30, now, hnow, g5⟩
    have hlong := right_long hnow
    simp -dsimp only [go_sem, gi, gn, g1, g5, g30, ia_enc .i64 hi, ld_enc, c_do]
    (refine cnd_intro (fun h => ?_) (fun h => ?_) <;> (try simp only [decide_eq_true_eq, decide_eq_false_iff_not, Bool.not_eq_true', Bool.not_eq_false', Bool.and_eq_true, Bool.or_eq_true, Bool.and_eq_false_iff, Bool.or_eq_false_iff, beq_iff_eq, beq_eq_false_iff_ne, ne_eq, Bool.not_eq_true, Bool.not_eq_false] at h) <;> simp -dsimp only [go_sem, *, gi, gn, g1, g5, g30, r_roleStays, F11s])
    have hnm : l[i].name.length ≤ 20 := by omega
    clear h
    (refine cnd_intro (fun h => ?_) (fun h => ?_) <;> (try simp only [decide_eq_true_eq, decide_eq_false_iff_not, Bool.not_eq_true', Bool.not_eq_false', Bool.and_eq_true, Bool.or_eq_true, Bool.and_eq_false_iff, Bool.or_eq_false_iff, beq_iff_eq, beq_eq_false_iff_ne, ne_eq, Bool.not_eq_true, Bool.not_eq_false] at h) <;> simp -dsimp only [go_sem, *, gi, gn, g1, g5, g30, r_roleStays, F11s])
    clear h
    generalize hd : l[i] = d at *
    have hT : (T ++ [AObj.cells [.int .i64 d.kind, .str d.by', .str d.name, .int .i64 d.role]])[T.length]? = some (.cells [.int .i64 d.kind, .str d.by', .str d.name, .int .i64 d.role]) := by simp
    have hlong2 : long2 now d.name := ⟨hlong, by omega⟩
    obtain ⟨nx, e, he, hne, hG⟩ : ∃ nx e, doP now d = (nx, e) ∧ (e ≠ 0 → nx = []) ∧ (e = 0 → Good now nx d.by' d.name) := by
      rcases do_all hnow d with ⟨nx, h1, h2⟩ | ⟨c, h1, h2⟩
      · exact ⟨nx, 0, h1, fun q => absurd rfl q, fun _ => h2⟩
      · exact ⟨[], c, h2, fun _ => rfl, fun q => absurd q h1⟩
    refine wpC_mono (st_W h4 h5 h6 (l := l) (i := i) (now := now) (d := d) (id := T.length) (by exact ⟨g1, g30, g5, rfl, gn, gi, hT⟩) hlong2 he) ?_
    rintro ex g' T' ⟨rfl, rfl, hR, g8, g9⟩
    simp -dsimp only [go_sem]
    refine wpC_mono (st_E hR g8 g9 hne) ?_
    rintro ex g2 T' ⟨rfl, hR, g8, rfl⟩
    by_cases h0 : e = 0
    · have G := hG h0
      have hl2 := right_long G.right
      rw [if_pos h0]
      simp -dsimp only [go_sem]
      refine wpC_mono (st_O h8 hR g8 hlong.1 hl2.1) ?_
      rintro ex g3 T' ⟨rfl, rfl, hR, g8, g10, g11, g12⟩
      simp -dsimp only [go_sem]
      refine wpC_mono (st_A h7 hR g8 g10 g11 g12 G) ?_
      rintro ex g4 T' ⟨rfl, rfl, hR, g8, g10, g11, g12⟩
      simp -dsimp only [go_sem]
      refine wpC_mono (st_B hR g8 g10 g11 g12 G) ?_
      rintro ex g5 T' ⟨rfl, rfl, hR, g8, g10, g11, g12⟩
      simp -dsimp only [go_sem]
      refine wpC_mono (st_L h8 hR g8 g10 g11 g12 G hlong.1 hl2.1) ?_
      rintro ex g6 T' ⟨rfl, hR, g8, g10, g11, g12⟩
      simp -dsimp only [go_sem]
      refine wpC_mono (st_D h9 hR g8 g10 g11 g12 hnow G) ?_
      rintro ex g7 T' ⟨rfl, rfl, hR, g8⟩
      simp -dsimp only [go_sem, hR.g31, hR.g32, hR.g1, hR.g30, g8]
      exact ⟨nx, G.right, rfl⟩
    · rw [if_neg h0]
      simp -dsimp only [go_sem, hR.g31, hR.g32, hR.g1, hR.g30, hR.g5]
      exact ⟨now, hnow, rfl⟩
  · rintro g T gi ⟨g1, g30, now, hnow, g5⟩
    have he := right_end hnow
    have hlong := right_long hnow
    have he3 : decide ((0 : Int) < (((withP now 4).length : Nat) : Int)) = true := decide_eq_true (by have := he.1; omega)
    simp -dsimp only [go_sem, F11s, g1, g5, c_with h11 now _ hlong.1, he3, he.2, r_roleStays]
end Go.Proofs.Ytobbiafkmgfioaa.Avm
