/- Specs: the stages of a round of RoleStays. -/
import Derived.Test.YtobbiafkmgfioaaS15
import Derived.Test.YtobbiafkmgfioaaRG
set_option linter.unusedVariables false
set_option linter.unusedSimpArgs false
set_option maxRecDepth 10000
namespace Go.Proofs.Ytobbiafkmgfioaa.Avm

/-- a round's registers -/
structure Rnd (l : List Deed) (i : Nat) (now : List Mem) (d : Deed) (id : Nat) (g : Frame) (T : Store) : Prop where
  g1 : g 1 = enc l
  g30 : g 30 = enc l
  g5 : g 5 = enc now
  g7 : g 7 = .ptr id 0
  g31 : g 31 = .int .i64 (l.length : Nat)
  g32 : g 32 = .int .i64 (i : Nat)
  hT : T[id]? = some (.cells [.int .i64 d.kind, .str d.by', .str d.name, .int .i64 d.role])
theorem Rnd.d0 {l : List Deed} {i : Nat} {now : List Mem} {d : Deed} {id : Nat} {g : Frame} {T : Store} (h : Rnd l i now d id g T) : loadA T false 1 (.ptr id 0) = some (.int .i64 d.kind) := ld_p1 h.hT
theorem Rnd.d1 {l : List Deed} {i : Nat} {now : List Mem} {d : Deed} {id : Nat} {g : Frame} {T : Store} (h : Rnd l i now d id g T) : loadA T false 1 (.ptr id 1) = some (.str d.by') := ld_p1 h.hT
theorem Rnd.d2 {l : List Deed} {i : Nat} {now : List Mem} {d : Deed} {id : Nat} {g : Frame} {T : Store} (h : Rnd l i now d id g T) : loadA T false 1 (.ptr id 2) = some (.str d.name) := ld_p1 h.hT
theorem Rnd.d3 {l : List Deed} {i : Nat} {now : List Mem} {d : Deed} {id : Nat} {g : Frame} {T : Store} (h : Rnd l i now d id g T) : loadA T false 1 (.ptr id 3) = some (.int .i64 d.role) := ld_p1 h.hT
section
variable {E : Env} {l : List Deed} {i : Nat} {now nx : List Mem} {d : Deed} {id : Nat} {g : Frame} {T : Store}
theorem st_W (h4 : E.prim 62 = some fun _ => p_share) (h5 : E.prim 63 = some fun _ => p_change) (h6 : E.prim 64 = some fun _ => p_revoke) (hR : Rnd l i now d id g T) (hk : long2 now d.name) {e : Int} (he : doP now d = (nx, e)) :
    wpC E G11_W g T (fun ex g' T' => ex = .normal ∧ T' = T ∧ Rnd l i now d id g' T ∧ g' 8 = enc nx ∧ g' 9 = .int .i64 e) .mk := by
  have d0 := hR.d0; have d1 := hR.d1; have d2 := hR.d2; have d3 := hR.d3
  obtain ⟨g1, g30, g5, g7, g31, g32, hT⟩ := hR
  unfold doP at he
  by_cases k1 : d.kind = 1
  · rw [if_pos k1] at he
    simp -dsimp only [go_sem, G11_W, g1, g5, g7, g30, g31, g32, d0, d1, d2, d3, k1, c_share h4 now d.by' d.name d.role hk, he]
    exact ⟨g1, g30, g5, g7, g31, g32, hT⟩
  · rw [if_neg k1] at he
    by_cases k2 : d.kind = 2
    · rw [if_pos k2] at he
      simp -dsimp only [go_sem, G11_W, g1, g5, g7, g30, g31, g32, d0, d1, d2, d3, k2, c_change h5 now d.by' d.name d.role hk, he]
      exact ⟨g1, g30, g5, g7, g31, g32, hT⟩
    · rw [if_neg k2] at he
      simp -dsimp only [go_sem, G11_W, g1, g5, g7, g30, g31, g32, d0, d1, d2, d3, k1, k2, c_revoke h6 now d.by' d.name hk, he]
      exact ⟨g1, g30, g5, g7, g31, g32, hT⟩
theorem st_E (hR : Rnd l i now d id g T) (g8 : g 8 = enc nx) {e : Int} (g9 : g 9 = .int .i64 e) (hn : e ≠ 0 → nx = []) :
    wpC E G11_E g T (fun ex g' T' => T' = T ∧ Rnd l i now d id g' T ∧ g' 8 = enc nx ∧ (ex = if e = 0 then .normal else .exit 1)) .mk := by
  obtain ⟨g1, g30, g5, g7, g31, g32, hT⟩ := hR
  have hz : decide ((0 : Int) < ((0 : Nat) : Int)) = false := rfl
  by_cases h0 : e = 0
  · simp -dsimp only [go_sem, G11_E, g1, g5, g7, g8, g9, g30, g31, g32, h0]
    exact ⟨g1, g30, g5, g7, g31, g32, hT⟩
  · have := hn h0; subst this
    simp -dsimp only [go_sem, G11_E, g1, g5, g7, g8, g9, g30, g31, g32, h0, hz]
    exact ⟨g1, g30, g5, g7, g31, g32, hT⟩
theorem st_O (h8 : E.prim 66 = some fun _ => p_of) (hR : Rnd l i now d id g T) (g8 : g 8 = enc nx) (hk : now.length ≤ 1000000) (hk2 : nx.length ≤ 1000000) :
    wpC E G11_O g T (fun ex g' T' => ex = .normal ∧ T' = T ∧ Rnd l i now d id g' T ∧ g' 8 = enc nx ∧ g' 10 = .int .i64 (ofP now d.by') ∧ g' 11 = .int .i64 (ofP now d.name) ∧ g' 12 = .int .i64 (ofP nx d.name)) .mk := by
  have d0 := hR.d0; have d1 := hR.d1; have d2 := hR.d2; have d3 := hR.d3
  obtain ⟨g1, g30, g5, g7, g31, g32, hT⟩ := hR
  simp -dsimp only [go_sem, G11_O]
  refine ExF.intro ?_
  simp -dsimp only [go_sem, g1, g5, g7, g8, g30, g31, g32, d0, d1, d2, d3, c_of h8 now _ hk, c_of h8 nx _ hk2]
  refine ⟨⟨g1, g30, g5, g7, g31, g32, hT⟩, fl_ld rfl rfl rfl rfl (flLd_n _ _ _ _ _ _ ?_), fl_ld rfl rfl rfl rfl (flLd_n _ _ _ _ _ _ ?_), fl_ld rfl rfl rfl rfl (flLd_n _ _ _ _ _ _ ?_)⟩
  all_goals simp -dsimp only [go_sem, g1, g5, g7, g8, d0, d1, d2, d3]
theorem right_long {l : List Mem} (h : rightP l = true) : long1 l := by
  have := (right_len h).1
  refine ⟨by omega, fun m hm => ?_⟩
  have := (((right_iff l).1 h).1 m hm).1
  simp only [nameOk, Bool.and_eq_true, decide_eq_true_eq] at this
  omega
theorem st_A (h7 : E.prim 65 = some fun _ => p_right) (hR : Rnd l i now d id g T) (g8 : g 8 = enc nx) (g10 : g 10 = .int .i64 (ofP now d.by')) (g11 : g 11 = .int .i64 (ofP now d.name)) (g12 : g 12 = .int .i64 (ofP nx d.name)) (G : Good now nx d.by' d.name) :
    wpC E G11_A g T (fun ex g' T' => ex = .normal ∧ T' = T ∧ Rnd l i now d id g' T ∧ g' 8 = enc nx ∧ g' 10 = .int .i64 (ofP now d.by') ∧ g' 11 = .int .i64 (ofP now d.name) ∧ g' 12 = .int .i64 (ofP nx d.name)) .mk := by
  have d0 := hR.d0; have d1 := hR.d1; have d2 := hR.d2; have d3 := hR.d3
  obtain ⟨g1, g30, g5, g7, g31, g32, hT⟩ := hR
  have hr := G.right
  by_cases a1 : ofP now d.by' < 3
  · have a2 : decide (d.by' = d.name) = true := decide_eq_true (Classical.byContradiction fun q => G.few ⟨a1, q⟩)
    simp -dsimp only [go_sem, G11_A, g1, g5, g7, g8, g10, g11, g12, g30, g31, g32, d0, d1, d2, d3, c_right h7 nx (right_long hr), hr, a1, a2]
    exact ⟨g1, g30, g5, g7, g31, g32, hT⟩
  · simp -dsimp only [go_sem, G11_A, g1, g5, g7, g8, g10, g11, g12, g30, g31, g32, d0, d1, d2, d3, c_right h7 nx (right_long hr), hr, a1]
    exact ⟨g1, g30, g5, g7, g31, g32, hT⟩
theorem st_B (hR : Rnd l i now d id g T) (g8 : g 8 = enc nx) (g10 : g 10 = .int .i64 (ofP now d.by')) (g11 : g 11 = .int .i64 (ofP now d.name)) (g12 : g 12 = .int .i64 (ofP nx d.name)) (G : Good now nx d.by' d.name) :
    wpC E G11_B g T (fun ex g' T' => ex = .normal ∧ T' = T ∧ Rnd l i now d id g' T ∧ g' 8 = enc nx ∧ g' 10 = .int .i64 (ofP now d.by') ∧ g' 11 = .int .i64 (ofP now d.name) ∧ g' 12 = .int .i64 (ofP nx d.name)) .mk := by
  have d0 := hR.d0; have d1 := hR.d1; have d2 := hR.d2; have d3 := hR.d3
  obtain ⟨g1, g30, g5, g7, g31, g32, hT⟩ := hR
  by_cases a1 : ofP now d.by' < 4
  · cases b2 : decide (3 ≤ if ofP nx d.name > ofP now d.name then ofP nx d.name else ofP now d.name)
    · simp -dsimp only [go_sem, G11_B, g1, g5, g7, g8, g10, g11, g12, g30, g31, g32, d0, d1, d2, d3, a1, b2]
      exact ⟨g1, g30, g5, g7, g31, g32, hT⟩
    · have hm : 3 ≤ ofP now d.name ∨ 3 ≤ ofP nx d.name := by
        have := of_decide_eq_true b2
        split at this
        · exact .inr this
        · exact .inl this
      have a2 : decide (d.by' = d.name) = true := decide_eq_true (G.high a1 hm).1
      have a3 : decide (ofP nx d.name = 0) = true := decide_eq_true (G.high a1 hm).2
      simp -dsimp only [go_sem, G11_B, g1, g5, g7, g8, g10, g11, g12, g30, g31, g32, d0, d1, d2, d3, a1, b2, a2, a3]
      exact ⟨g1, g30, g5, g7, g31, g32, hT⟩
  · simp -dsimp only [go_sem, G11_B, g1, g5, g7, g8, g10, g11, g12, g30, g31, g32, d0, d1, d2, d3, a1]
    exact ⟨g1, g30, g5, g7, g31, g32, hT⟩
theorem st_L (h8 : E.prim 66 = some fun _ => p_of) (hR : Rnd l i now d id g T) (g8 : g 8 = enc nx) (g10 : g 10 = .int .i64 (ofP now d.by')) (g11 : g 11 = .int .i64 (ofP now d.name)) (g12 : g 12 = .int .i64 (ofP nx d.name)) (G : Good now nx d.by' d.name) (hk : now.length ≤ 1000000) (hk2 : nx.length ≤ 1000000) :
    wpC E G11_L g T (fun ex g' T' => ex = .normal ∧ Rnd l i now d id g' T' ∧ g' 8 = enc nx ∧ g' 10 = .int .i64 (ofP now d.by') ∧ g' 11 = .int .i64 (ofP now d.name) ∧ g' 12 = .int .i64 (ofP nx d.name)) .mk := by
  obtain ⟨g1, g30, g5, g7, g31, g32, hT⟩ := hR
  simp -dsimp only [go_sem, G11_L, g5]
  refine Ex.range (n := now.length) (fun j g T => Rnd l i now d id g T ∧ g 133 = enc now ∧ g 8 = enc nx ∧ g 10 = .int .i64 (ofP now d.by') ∧ g 11 = .int .i64 (ofP now d.name) ∧ g 12 = .int .i64 (ofP nx d.name)) (by decide) (by omega) rfl rfl ⟨⟨g1, g30, g5, g7, g31, g32, hT⟩, rfl, g8, g10, g11, g12⟩ ?_ ?_
  · rintro j g T hj gi gn ⟨hR, g133, g8, g10, g11, g12⟩
    have hrest := G.rest now[j] (List.getElem_mem hj)
    have hidl : id < T.length := (List.getElem?_eq_some_iff.1 hR.hT).1
    obtain ⟨g1, g30, g5, g7, g31, g32, hT⟩ := hR
    have hT2 : ∀ M : List AObj, (T ++ M)[id]? = some (.cells [.int .i64 d.kind, .str d.by', .str d.name, .int .i64 d.role]) := fun M => by rw [List.getElem?_append_left hidl]; exact hT
    have d2 : ∀ M : List AObj, loadA (T ++ M) false 1 (.ptr id 2) = some (.str d.name) := fun M => ld_p1 (hT2 M)
    simp -dsimp only [go_sem, gi, gn, g133, ia_enc .i64 hj, ld_enc, c_mem]
    refine ExF.intro ?_
    by_cases a1 : now[j].name = d.name
    · simp -dsimp only [go_sem, gi, gn, g1, g5, g7, g8, g133, d2, a1]
      refine ⟨⟨⟨g1, g30, g5, g7, g31, g32, hT2 _⟩, g10, g11, g12⟩, fl_ld rfl rfl rfl rfl (flLd_s _ _ _ _ _ _ _ _ rfl)⟩
    · have a2 := hrest a1
      simp -dsimp only [go_sem, gi, gn, g1, g5, g7, g8, g133, d2, a1, c_of h8 nx _ hk2, a2]
      refine ⟨⟨⟨g1, g30, g5, g7, g31, g32, hT2 _⟩, g10, g11, g12⟩, fl_ld rfl rfl rfl rfl (flLd_g _ _ _ _ _ _ _ ?_)⟩
      simp -dsimp only [go_sem, gi, gn, g1, g5, g7, g8, g133, d2, a1, a2]
  · rintro g T gi ⟨hR, g133, g8, g10, g11, g12⟩
    obtain ⟨g1, g30, g5, g7, g31, g32, hT⟩ := hR
    simp -dsimp only [go_sem, g8, g10, g11, g12]
    exact ⟨g1, g30, g5, g7, g31, g32, hT⟩
theorem st_D (h9 : E.prim 73 = some fun _ => p_step) (hR : Rnd l i now d id g T) (g8 : g 8 = enc nx) (g10 : g 10 = .int .i64 (ofP now d.by')) (g11 : g 11 = .int .i64 (ofP now d.name)) (g12 : g 12 = .int .i64 (ofP nx d.name)) (hn : rightP now = true) (G : Good now nx d.by' d.name) :
    wpC E G11_D g T (fun ex g' T' => ex = .normal ∧ T' = T ∧ Rnd l i now d id g' T ∧ g' 8 = enc nx) .mk := by
  have d0 := hR.d0; have d1 := hR.d1; have d2 := hR.d2; have d3 := hR.d3
  obtain ⟨g1, g30, g5, g7, g31, g32, hT⟩ := hR
  by_cases a1 : ofP now d.name = ofP nx d.name
  · have a2 := G.same a1
    rcases hst : stepP now nx d.by' with ⟨x, y⟩
    rw [hst] at a2
    have a2 : y = 11 := a2
    subst a2
    simp -dsimp only [go_sem, G11_D, g1, g5, g7, g8, g10, g11, g12, g30, g31, g32, d0, d1, d2, d3, a1, c_step h9 now nx d.by' ⟨right_long hn, right_long G.right⟩, hst]
    exact ⟨g1, g30, g5, g7, g31, g32, hT⟩
  · have hst := G.step a1
    cases a3 : decide (ofP nx d.name = 0)
    · rw [a3] at hst
      simp -dsimp only [go_sem, G11_D, g1, g5, g7, g8, g10, g11, g12, g30, g31, g32, d0, d1, d2, d3, a1, c_step h9 now nx d.by' ⟨right_long hn, right_long G.right⟩, hst, a3]
      exact ⟨g1, g30, g5, g7, g31, g32, hT⟩
    · rw [a3] at hst
      simp -dsimp only [go_sem, G11_D, g1, g5, g7, g8, g10, g11, g12, g30, g31, g32, d0, d1, d2, d3, a1, c_step h9 now nx d.by' ⟨right_long hn, right_long G.right⟩, hst, a3]
      exact ⟨g1, g30, g5, g7, g31, g32, hT⟩
end
end Go.Proofs.Ytobbiafkmgfioaa.Avm
