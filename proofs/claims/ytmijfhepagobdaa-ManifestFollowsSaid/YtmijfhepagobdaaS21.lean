/- Specs: how manifests begin; the law of following. -/
import Derived.Test.YtmijfhepagobdaaS20
set_option linter.unusedVariables false
set_option linter.unusedSimpArgs false
set_option maxRecDepth 10000
namespace Go.Proofs.Ytmijfhepagobdaa.Avm

theorem hd_name {l : List Mem} (h : 0 < l.length) : (l.map (·.name)).headD [] = l[0].name := by
  cases l with
  | nil => simp at h
  | cons a l => simp
theorem ok_begins {E : Env} (hp : E.prim 8 = none) (hf : E.F 8 = some F8) (h2 : E.prim 14 = some fun _ => p_may) : OkS E 8 e_begins (gd k_begins r_begins) := by
  refine OkS.code hp hf (fun _ => rfl) fun m lm => ?_
  have cm : ∀ (S : Store) (K : AV → Store → Prop) (d : Dm K), SpD E 14 [.agg (maniL m)] S K d = K (.bool (mayP m)) S := fun _ _ _ => c_may h2 m lm
  cases y1 : mayP m
  · simp -dsimp only [go_sem, F8, e_begins, r_begins, beginsP, cm, y1]
  cases y2 : decide (m.seq = 1)
  · simp -dsimp only [go_sem, F8, e_begins, r_begins, beginsP, cm, y1, y2, Bool.true_or, Bool.false_or, Bool.or_false, Bool.or_true]
  cases y3 : decide (((m.members.length : Nat) : Int) = 1)
  · simp -dsimp only [go_sem, F8, e_begins, r_begins, beginsP, cm, y1, y2, y3, Bool.true_or, Bool.false_or, Bool.or_false, Bool.or_true]
  have h0 : 0 < m.members.length := by have := of_decide_eq_true y3; omega
  have hia : iaddrA 2 (enc m.members) (.int .i64 0) = some (.cptr (Rec.c m.members[0] ++ cl (m.members.drop 1))) := ia_enc .i64 h0 rfl
  have hh := hd_name h0
  cases y4 : decide (m.members[0].name = m.by')
  · simp -dsimp only [go_sem, F8, e_begins, r_begins, beginsP, cm, y1, y2, y3, y4, hia, ld_enc, c_mem, hh, Bool.true_or, Bool.false_or, Bool.or_false, Bool.or_true]
  cases y5 : decide (m.cut = 0)
  · simp -dsimp only [go_sem, F8, e_begins, r_begins, beginsP, cm, y1, y2, y3, y4, y5, hia, ld_enc, c_mem, hh, Bool.true_or, Bool.false_or, Bool.or_false, Bool.or_true]
  cases y6 : m.gone
  · simp only [maniL, y6] at cm
    simp -dsimp only [go_sem, F8, e_begins, r_begins, beginsP, cm, y1, y2, y3, y4, y5, y6, hia, ld_enc, c_mem, hh, Bool.true_or, Bool.false_or, Bool.or_false, Bool.or_true]
  · simp only [maniL, y6] at cm
    simp -dsimp only [go_sem, F8, e_begins, r_begins, beginsP, cm, y1, y2, y3, y4, y5, y6, hia, ld_enc, c_mem, hh, Bool.true_or, Bool.false_or, Bool.or_false, Bool.or_true]
theorem ok_beginsR {E : Env} (hp : E.prim 9 = none) (hf : E.F 9 = some F9) (h1 : E.prim 19 = some fun _ => p_sameR) (h2 : E.prim 18 = some fun _ => p_mayR) : OkS E 9 e_beginsR (gd k_beginsR r_beginsR) := by
  refine OkS.code hp hf (fun _ => rfl) fun m lm => ?_
  have hw1 : m.members.length ≤ 9223372036854775807 := by have := lm.2.2.2.1.1; omega
  have cm : ∀ (S : Store) (K : AV → Store → Prop) (d : Dm K), SpD E 18 [.agg (maniL m)] S K d = K (.bool (mayP m)) S := fun _ _ _ => c_mayR h2 m lm
  cases y1 : mayP m
  · simp -dsimp only [go_sem, F9, e_beginsR, r_beginsR, beginsRP, cm, y1]
  cases y2 : decide (m.seq = 1)
  · simp -dsimp only [go_sem, F9, e_beginsR, r_beginsR, beginsRP, cm, y1, y2, Bool.true_and, Bool.false_and, Bool.and_true, Bool.and_false]
  cases y3 : decide (m.members = [⟨m.by', 4⟩])
  · simp -dsimp only [go_sem, F9, e_beginsR, r_beginsR, beginsRP, cm, y1, y2, c_sameR h1 m.members _ hw1, y3, Bool.true_and, Bool.false_and, Bool.and_true, Bool.and_false]
  cases y5 : decide (m.cut = 0)
  · simp -dsimp only [go_sem, F9, e_beginsR, r_beginsR, beginsRP, cm, y1, y2, c_sameR h1 m.members _ hw1, y3, y5, Bool.true_and, Bool.false_and, Bool.and_true, Bool.and_false]
  cases y6 : m.gone
  · simp only [maniL, y6] at cm
    simp -dsimp only [go_sem, F9, e_beginsR, r_beginsR, beginsRP, cm, y1, y2, c_sameR h1 m.members _ hw1, y3, y5, y6, Bool.true_and, Bool.false_and, Bool.and_true, Bool.and_false]
  · simp only [maniL, y6] at cm
    simp -dsimp only [go_sem, F9, e_beginsR, r_beginsR, beginsRP, cm, y1, y2, c_sameR h1 m.members _ hw1, y3, y5, y6, Bool.true_and, Bool.false_and, Bool.and_true, Bool.and_false]
theorem begins_eq (m : Mani) : beginsP m = beginsRP m := by
  unfold beginsP beginsRP
  cases y1 : mayP m
  · rfl
  have hq := of_decide_eq_true y1
  have hr := hq.2.2.2.2.2.2.2.2.1
  have key : m.members = [⟨m.by', 4⟩] ↔ ((m.members.length : Nat) : Int) = 1 ∧ (m.members.map (·.name)).headD [] = m.by' := by
    have h4 := ((right_iff m.members).1 hr).2.2.2
    constructor
    · intro e; rw [e]; simp
    · rintro ⟨e1, e2⟩
      match hm : m.members with
      | [] => rw [hm] at e1; simp at e1
      | [x] =>
        rw [hm] at e2 h4
        have e2 : x.name = m.by' := e2
        have e4 : x.role = 4 := Classical.byContradiction fun q => h4 (by simp [ownersRP, q])
        rw [List.cons.injEq]; exact ⟨mem_ext.2 ⟨e2, e4⟩, rfl⟩
      | x :: y :: l => rw [hm] at e1; simp at e1; omega
  have k2 : decide (m.members = [⟨m.by', 4⟩]) = (decide (((m.members.length : Nat) : Int) = 1) && decide ((m.members.map (·.name)).headD [] = m.by')) := by
    rw [← Bool.decide_and]; exact decide_eq_decide.2 key
  rw [k2]
  cases decide (m.seq = 1) <;> cases decide (((m.members.length : Nat) : Int) = 1) <;> cases decide ((m.members.map (·.name)).headD [] = m.by') <;> cases decide (m.cut = 0) <;> cases m.gone <;> rfl
theorem follows_eq (w : Mani) (x : List UInt8) (m : Mani) : followsP w x m = followsRP w x m := by
  unfold followsP followsRP
  cases y1 : mayP w
  · rfl
  cases y2 : mayP m
  · rfl
  have hq := of_decide_eq_true y1
  have hr := hq.2.2.2.2.2.2.2.2.1
  have k1 : decide (m.seq - 1 = w.seq) = decide (m.seq = w.seq + 1) := decide_eq_decide.2 (by omega)
  have h4 := of_ge hr m.by'
  have k2 : (if ofP w.members m.by' < 4 then (40 : Int) else 0) = if (!decide (ofP w.members m.by' = 4)) = true then 40 else 0 := by
    by_cases q : ofP w.members m.by' = 4
    · rw [if_neg (by omega), decide_eq_true q]; rfl
    · rw [if_pos (by omega), decide_eq_false q]; rfl
  rw [k1, k2, step_eq]
  rcases stepRP w.members m.members m.by' with ⟨a, c⟩
  simp only
  cases decide (m.seq = w.seq + 1) <;> cases m.gone <;> cases decide (w.members = m.members) <;> cases decide (m.parent = w.parent) <;> cases decide (m.cut = w.cut) <;> cases decide (m.cut = m.seq) <;> cases a <;> rfl
theorem ok_fewM {E : Env} (hp : E.prim 5 = none) (hf : E.F 5 = some F5) : OkS E 5 e_fewM (gd k_fewM r_fewM) := by
  refine OkS.code hp hf (fun _ => rfl) fun m hk => ?_
  have hk : m.members.length ≤ 9223372036854775807 := hk
  simp -dsimp only [go_sem, F5, e_fewM]
  refine Ex.range (n := m.members.length) (fun i g T => g 1 = .ptr 0 0 ∧ g 6 = enc m.members ∧ (∃ M, T = AObj.cells (maniL m) :: M) ∧ (m.members.take i).all (fun x => decide (x.name.length ≤ 20)) = true) (by decide) (by omega) rfl rfl ⟨rfl, rfl, ⟨[], rfl⟩, rfl⟩ ?_ ?_
  · rintro i g T hi gi gn ⟨g1, g6, ⟨M, rfl⟩, hA⟩
    simp -dsimp only [go_sem, gi, gn, g1, g6, ia_enc .i64 hi, ld_enc, c_mem]
    refine cnd_intro (fun h => ?_) (fun h => ?_) <;> simp only [decide_eq_true_eq, decide_eq_false_iff_not] at h
    · simp -dsimp only [go_sem, gi, gn, g1, g6, F5, r_fewM, fewM]
      rw [all_bad hi (by simp only [decide_eq_false_iff_not]; omega)]; rfl
    · simp -dsimp only [go_sem, gi, gn, g1, g6]
      exact ⟨⟨_, rfl⟩, take_all hi hA (by simp only [decide_eq_true_eq]; omega)⟩
  · rintro g T gi ⟨g1, g6, ⟨M, rfl⟩, hA⟩
    rw [List.take_length] at hA
    have f1 : decide (((m.folder.length : Nat) : Int) ≤ 20) = decide (m.folder.length ≤ 20) := decide_eq_decide.2 (by omega)
    have f2 : decide (((m.by'.length : Nat) : Int) ≤ 20) = decide (m.by'.length ≤ 20) := decide_eq_decide.2 (by omega)
    have f3 : decide (((m.parent.length : Nat) : Int) ≤ 20) = decide (m.parent.length ≤ 20) := decide_eq_decide.2 (by omega)
    have f4 : decide (((m.members.length : Nat) : Int) ≤ 20) = decide (m.members.length ≤ 20) := decide_eq_decide.2 (by omega)
    have f5 : decide (((m.prev.length : Nat) : Int) ≤ 100) = decide (m.prev.length ≤ 100) := decide_eq_decide.2 (by omega)
    cases z1 : decide (m.folder.length ≤ 20)
    · simp -dsimp only [go_sem, F5, r_fewM, fewM, g1, g6, hA, f1, f2, f3, f4, f5, Bool.true_and, Bool.false_and, Bool.and_true, Bool.and_false, z1]
    cases z2 : decide (m.by'.length ≤ 20)
    · simp -dsimp only [go_sem, F5, r_fewM, fewM, g1, g6, hA, f1, f2, f3, f4, f5, Bool.true_and, Bool.false_and, Bool.and_true, Bool.and_false, z1, z2]
    cases z3 : decide (m.parent.length ≤ 20)
    · simp -dsimp only [go_sem, F5, r_fewM, fewM, g1, g6, hA, f1, f2, f3, f4, f5, Bool.true_and, Bool.false_and, Bool.and_true, Bool.and_false, z1, z2, z3]
    cases z4 : decide (m.members.length ≤ 20)
    · simp -dsimp only [go_sem, F5, r_fewM, fewM, g1, g6, hA, f1, f2, f3, f4, f5, Bool.true_and, Bool.false_and, Bool.and_true, Bool.and_false, z1, z2, z3, z4]
    cases z5 : decide (m.prev.length ≤ 100)
    · simp -dsimp only [go_sem, F5, r_fewM, fewM, g1, g6, hA, f1, f2, f3, f4, f5, Bool.true_and, Bool.false_and, Bool.and_true, Bool.and_false, z1, z2, z3, z4, z5]
    simp -dsimp only [go_sem, F5, r_fewM, fewM, g1, g6, hA, f1, f2, f3, f4, f5, Bool.true_and, Bool.false_and, Bool.and_true, Bool.and_false, z1, z2, z3, z4, z5]
theorem fewM_long {m : Mani} (h : fewM m = true) : longM m := by
  simp only [fewM, Bool.and_eq_true, List.all_eq_true, decide_eq_true_eq] at h
  obtain ⟨h1, h2, h3, h4, h5, h6⟩ := h
  exact ⟨by omega, by omega, by omega, ⟨by omega, fun x hx => by have := h1 x hx; omega⟩, by omega⟩
theorem ok_law28 {E : Env} (hp : E.prim 3 = none) (hf : E.F 3 = some F3) (h1 : E.prim 4 = some fun _ => p_awake28) (h2 : E.prim 5 = some fun _ => p_fewM) (h3 : E.prim 6 = some fun _ => p_follows) (h4 : E.prim 7 = some fun _ => p_followsR)
    (h5 : E.prim 8 = some fun _ => p_begins) (h6 : E.prim 9 = some fun _ => p_beginsR) : OkS E 3 e_manifestFollows (gd k_manifestFollows r_manifestFollows) := by
  refine OkS.code hp hf (fun _ => rfl) fun ⟨w, x, m⟩ ⟨⟨hw, hm⟩, hx⟩ => ?_
  have hw : w.members.length ≤ 9223372036854775807 := hw
  have hm : m.members.length ≤ 9223372036854775807 := hm
  cases y1 : fewM w
  · simp -dsimp only [go_sem, F3, e_manifestFollows, r_manifestFollows, c_awake28 h1, c_fewM h2 w hw, y1]
  cases y2 : fewM m
  · simp -dsimp only [go_sem, F3, e_manifestFollows, r_manifestFollows, c_awake28 h1, c_fewM h2 w hw, c_fewM h2 m hm, y1, y2]
  cases y3 : decide ((100 : Int) < ((x.length : Nat) : Int))
  rotate_left
  · simp -dsimp only [go_sem, F3, e_manifestFollows, r_manifestFollows, c_awake28 h1, c_fewM h2 w hw, c_fewM h2 m hm, y1, y2, y3]
  have lw := fewM_long y1
  have lm := fewM_long y2
  have e1 := follows_eq w x m
  have e2 := begins_eq m
  simp -dsimp only [go_sem, F3, e_manifestFollows, r_manifestFollows, c_awake28 h1, c_fewM h2 w hw, c_fewM h2 m hm, y1, y2, y3]
  refine ExF.intro ?_
  simp -dsimp only [go_sem, c_follows h3 w x m ⟨lw, lm⟩, c_followsR h4 w x m ⟨lw, lm⟩, c_begins h5 m lm, c_beginsR h6 m lm, e1, e2]
  refine ⟨?_, fl_ld rfl rfl rfl rfl (flLd_n _ _ _ _ _ _ ?_), fl_ld rfl rfl rfl rfl (flLd_n _ _ _ _ _ _ ?_), fl_ld rfl rfl rfl rfl (flLd_g _ _ _ _ _ _ _ ?_)⟩
  · simp -dsimp only [go_sem, F3, r_manifestFollows]
  all_goals simp -dsimp only [go_sem]
end Go.Proofs.Ytmijfhepagobdaa.Avm
