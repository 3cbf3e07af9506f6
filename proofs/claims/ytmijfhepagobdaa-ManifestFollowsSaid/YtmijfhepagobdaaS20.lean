/- Specs: which manifest follows which. -/
import Derived.Test.YtmijfhepagobdaaS19
set_option linter.unusedVariables false
set_option linter.unusedSimpArgs false
set_option maxRecDepth 10000
namespace Go.Proofs.Ytmijfhepagobdaa.Avm

theorem wrap_in {n : Int} (h : -9223372036854775808 ≤ n ∧ n ≤ 9223372036854775807) : IntKind.i64.wrap n = n := by
  simp [IntKind.wrap, IntKind.min, IntKind.max, IntKind.signed, IntKind.bits]; omega
theorem ok_eqMem {E : Env} (hp : E.prim 13 = none) (hf : E.F 13 = some F13) : OkS E 13 e_eqMem (gd k_eqMem r_eqMem) := by
  refine OkS.code hp hf (fun _ => rfl) fun ⟨a, b⟩ hk => ?_
  have hk : a.length ≤ 9223372036854775807 := hk
  simp -dsimp only [go_sem, F13, e_eqMem, r_eqMem]
  refine cnd_intro (fun h => ?_) (fun h => ?_) <;> simp only [decide_eq_true_eq, decide_eq_false_iff_not, Bool.not_eq_true', Bool.not_eq_false'] at h
  · have : ¬ a = b := fun e => h (by rw [e])
    simp -dsimp only [go_sem, F13, r_eqMem, this]
  · have hl : a.length = b.length := by omega
    simp -dsimp only [go_sem, F13, r_eqMem, hl]
    refine Ex.range (n := a.length) (fun i g T => g 0 = enc a ∧ g 1 = enc b ∧ a.take i = b.take i) (by decide) (by omega) rfl (by rw [hl]; rfl) ⟨rfl, rfl, rfl⟩ ?_ ?_
    · rintro i g T hi gi gn ⟨g0, g1, hI⟩
      have hib : i < b.length := by omega
      simp -dsimp only [go_sem, gi, gn, g0, g1, ia_enc .i64 hi, ia_enc .i64 hib, ld_enc, c_mem]
      refine cnd_intro (fun h => ?_) (fun h => ?_) <;> simp only [decide_eq_true_eq, decide_eq_false_iff_not, Bool.not_eq_true', Bool.not_eq_false'] at h
      · have : ¬ a = b := fun e => h (by subst e; rfl)
        simp -dsimp only [go_sem, F13, r_eqMem, this]
      · simp -dsimp only [go_sem, gi, gn, g0, g1]
        rw [List.take_succ_eq_append_getElem hi, List.take_succ_eq_append_getElem hib, hI, h]
    · rintro g T gi ⟨g0, g1, hI⟩
      have : a = b := by rw [List.take_of_length_le (Nat.le_refl _), hl, List.take_of_length_le (Nat.le_refl _)] at hI; exact hI
      simp -dsimp only [go_sem, F13, r_eqMem, this]
theorem ok_owner {E : Env} (hp : E.prim 16 = none) (hf : E.F 16 = some F16) (h1 : E.prim 34 = some fun _ => p_of) : OkS E 16 e_owner (gd k_owner r_owner) := by
  refine OkS.code hp hf (fun _ => rfl) fun ⟨w, b⟩ hk => ?_
  have hk : w.members.length ≤ 1000000 := hk
  cases y : decide (ofP w.members b < 4)
  · have y2 := of_decide_eq_false y
    simp -dsimp only [go_sem, F16, e_owner, r_owner, c_of h1 w.members b hk, y, y2]
  · have y2 := of_decide_eq_true y
    simp -dsimp only [go_sem, F16, e_owner, r_owner, c_of h1 w.members b hk, y, y2]
theorem asBytes_cl : ∀ l : List UInt8, asBytes (cl l) = some l
  | [] => rfl
  | a :: l => by
    have ih := asBytes_cl l
    rw [cl_cons]
    simp only [c_u8, List.singleton_append, asBytes, ih]
    have := a.toNat_lt
    rw [if_pos (by omega)]
    simp
theorem ok_beq {E : Env} (hp : E.prim 15 = none) (hf : E.F 15 = some F15) : OkS E 15 e_beq (gd k_beq r_beq) := by
  refine OkS.code hp hf (fun _ => rfl) fun ⟨a, b⟩ hk => ?_
  have e : ∀ l : List UInt8, b2sA [] (enc l) = some (.str l) := fun l => by
    have := el_enc (S := []) l (sz := 1) rfl
    simp only [b2sA, enc] at this ⊢
    rw [this]
    simp only [Option.bind_some, asBytes_cl, Option.map_some]
  simp -dsimp only [go_sem, F15, e_beq, r_beq, e]
theorem ok_follows {E : Env} (hp : E.prim 6 = none) (hf : E.F 6 = some F6) (h1 : E.prim 13 = some fun _ => p_eqMem) (h2 : E.prim 14 = some fun _ => p_may) (h3 : E.prim 15 = some fun _ => p_beq) (h4 : E.prim 16 = some fun _ => p_owner) (h5 : E.prim 17 = some fun _ => p_step) : OkS E 6 e_follows (gd k_follows r_follows) := by
  refine OkS.code hp hf (fun _ => rfl) fun ⟨w, x, m⟩ ⟨lw, lm⟩ => ?_
  have hw1 : w.members.length ≤ 9223372036854775807 := by have := lw.2.2.2.1.1; omega
  have cw : ∀ (S : Store) (K : AV → Store → Prop) (d : Dm K), SpD E 14 [.agg (maniL w)] S K d = K (.bool (mayP w)) S := fun _ _ _ => c_may h2 w lw
  have cm : ∀ (S : Store) (K : AV → Store → Prop) (d : Dm K), SpD E 14 [.agg (maniL m)] S K d = K (.bool (mayP m)) S := fun _ _ _ => c_may h2 m lm
  have co : ∀ (S : Store) (K : AV → Store → Prop) (d : Dm K), SpD E 16 [.agg (maniL w), .str m.by'] S K d = K (.int .i64 (if ofP w.members m.by' < 4 then 40 else 0)) S := fun _ _ _ => c_owner h4 w m.by' lw.2.2.2.1.1
  cases y1 : mayP w
  · simp -dsimp only [go_sem, F6, e_follows, r_follows, followsP, Bool.true_or, Bool.false_or, Bool.or_false, Bool.or_true, Bool.and_true, Bool.true_and, Bool.false_and, Bool.and_false,  c_eqMem h1 w.members m.members hw1, cw, cm, c_beq h3 m.prev x, co, c_step h5 w.members m.members m.by' ⟨lw.2.2.2.1, lm.2.2.2.1⟩, y1]
  cases y2 : mayP m
  · simp -dsimp only [go_sem, F6, e_follows, r_follows, followsP, Bool.true_or, Bool.false_or, Bool.or_false, Bool.or_true, Bool.and_true, Bool.true_and, Bool.false_and, Bool.and_false,  c_eqMem h1 w.members m.members hw1, cw, cm, c_beq h3 m.prev x, co, c_step h5 w.members m.members m.by' ⟨lw.2.2.2.1, lm.2.2.2.1⟩, y1, y2]
  have hq := of_decide_eq_true y1
  have hq2 := of_decide_eq_true y2
  have hw : IntKind.i64.wrap (w.seq + 1) = w.seq + 1 := wrap_in (by have := hq.2.2.1; have := hq.2.2.2.1; omega)
  cases y3 : w.gone
  rotate_left
  · simp only [maniL, y3] at cw co
    simp -dsimp only [go_sem, F6, e_follows, r_follows, followsP, Bool.true_or, Bool.false_or, Bool.or_false, Bool.or_true, Bool.and_true, Bool.true_and, Bool.false_and, Bool.and_false,  c_eqMem h1 w.members m.members hw1, cw, cm, c_beq h3 m.prev x, co, c_step h5 w.members m.members m.by' ⟨lw.2.2.2.1, lm.2.2.2.1⟩, y1, y2, hw, y3]
  simp only [maniL, y3] at cw co
  cases y4 : decide (m.folder = w.folder)
  · simp -dsimp only [go_sem, F6, e_follows, r_follows, followsP, Bool.true_or, Bool.false_or, Bool.or_false, Bool.or_true, Bool.and_true, Bool.true_and, Bool.false_and, Bool.and_false,  c_eqMem h1 w.members m.members hw1, cw, cm, c_beq h3 m.prev x, co, c_step h5 w.members m.members m.by' ⟨lw.2.2.2.1, lm.2.2.2.1⟩, y1, y2, hw, y3, y4]
  cases y5 : decide (m.seq = w.seq + 1)
  · simp -dsimp only [go_sem, F6, e_follows, r_follows, followsP, Bool.true_or, Bool.false_or, Bool.or_false, Bool.or_true, Bool.and_true, Bool.true_and, Bool.false_and, Bool.and_false,  c_eqMem h1 w.members m.members hw1, cw, cm, c_beq h3 m.prev x, co, c_step h5 w.members m.members m.by' ⟨lw.2.2.2.1, lm.2.2.2.1⟩, y1, y2, hw, y3, y4, y5]
  cases y6 : decide (m.prev = x)
  · simp -dsimp only [go_sem, F6, e_follows, r_follows, followsP, Bool.true_or, Bool.false_or, Bool.or_false, Bool.or_true, Bool.and_true, Bool.true_and, Bool.false_and, Bool.and_false,  c_eqMem h1 w.members m.members hw1, cw, cm, c_beq h3 m.prev x, co, c_step h5 w.members m.members m.by' ⟨lw.2.2.2.1, lm.2.2.2.1⟩, y1, y2, hw, y3, y4, y5, y6]
  cases y7 : m.gone
  rotate_left
  · simp only [maniL, y7] at cm
    cases y8 : decide (w.members = m.members) <;> cases y9 : decide (m.parent = w.parent) <;> cases y10 : decide (m.cut = w.cut)
    all_goals simp -dsimp only [go_sem, F6, e_follows, r_follows, followsP, Bool.true_or, Bool.false_or, Bool.or_false, Bool.or_true, Bool.and_true, Bool.true_and, Bool.false_and, Bool.and_false,  c_eqMem h1 w.members m.members hw1, cw, cm, c_beq h3 m.prev x, co, c_step h5 w.members m.members m.by' ⟨lw.2.2.2.1, lm.2.2.2.1⟩, y1, y2, hw, y3, y4, y5, y6, y7, y8, y9, y10]
  simp only [maniL, y7] at cm
  cases y9 : decide (m.parent = w.parent)
  · cases y8 : decide (w.members = m.members) <;> cases y10 : decide (m.cut = m.seq)
    all_goals simp -dsimp only [go_sem, F6, e_follows, r_follows, followsP, Bool.true_or, Bool.false_or, Bool.or_false, Bool.or_true, Bool.and_true, Bool.true_and, Bool.false_and, Bool.and_false,  c_eqMem h1 w.members m.members hw1, cw, cm, c_beq h3 m.prev x, co, c_step h5 w.members m.members m.by' ⟨lw.2.2.2.1, lm.2.2.2.1⟩, y1, y2, hw, y3, y4, y5, y6, y7, y8, y9, y10]
  rcases hs : stepP w.members m.members m.by' with ⟨a, c⟩
  cases y11 : decide (c = 0)
  · simp -dsimp only [go_sem, F6, e_follows, r_follows, followsP, Bool.true_or, Bool.false_or, Bool.or_false, Bool.or_true, Bool.and_true, Bool.true_and, Bool.false_and, Bool.and_false,  c_eqMem h1 w.members m.members hw1, cw, cm, c_beq h3 m.prev x, co, c_step h5 w.members m.members m.by' ⟨lw.2.2.2.1, lm.2.2.2.1⟩, y1, y2, hw, y3, y4, y5, y6, y7, y9, hs, y11]
  cases y12 : a <;> cases y13 : decide (m.cut = m.seq) <;> cases y14 : decide (m.cut = w.cut)
  all_goals simp -dsimp only [go_sem, F6, e_follows, r_follows, followsP, Bool.true_or, Bool.false_or, Bool.or_false, Bool.or_true, Bool.and_true, Bool.true_and, Bool.false_and, Bool.and_false,  c_eqMem h1 w.members m.members hw1, cw, cm, c_beq h3 m.prev x, co, c_step h5 w.members m.members m.by' ⟨lw.2.2.2.1, lm.2.2.2.1⟩, y1, y2, hw, y3, y4, y5, y6, y7, y9, hs, y11, y12, y13, y14]
theorem ok_followsR {E : Env} (hp : E.prim 7 = none) (hf : E.F 7 = some F7) (h1 : E.prim 19 = some fun _ => p_sameR) (h2 : E.prim 18 = some fun _ => p_mayR) (h3 : E.prim 11 = some fun _ => p_bsame) (h4 : E.prim 20 = some fun _ => p_ofR) (h5 : E.prim 21 = some fun _ => p_stepR) : OkS E 7 e_followsR (gd k_followsR r_followsR) := by
  refine OkS.code hp hf (fun _ => rfl) fun ⟨w, x, m⟩ ⟨lw, lm⟩ => ?_
  have hw1 : w.members.length ≤ 9223372036854775807 := by have := lw.2.2.2.1.1; omega
  have cw : ∀ (S : Store) (K : AV → Store → Prop) (d : Dm K), SpD E 18 [.agg (maniL w)] S K d = K (.bool (mayP w)) S := fun _ _ _ => c_mayR h2 w lw
  have cm : ∀ (S : Store) (K : AV → Store → Prop) (d : Dm K), SpD E 18 [.agg (maniL m)] S K d = K (.bool (mayP m)) S := fun _ _ _ => c_mayR h2 m lm
  cases y1 : mayP w
  · simp -dsimp only [go_sem, F7, e_followsR, r_followsR, followsRP, Bool.true_or, Bool.false_or, Bool.or_false, Bool.or_true, Bool.and_true, Bool.true_and, Bool.false_and, Bool.and_false,  c_sameR h1 w.members m.members hw1, cw, cm, c_bsame h3 m.prev x lm.2.2.2.2, c_ofR h4 w.members m.by' hw1, c_stepR h5 w.members m.members m.by' ⟨lw.2.2.2.1, lm.2.2.2.1⟩, y1]
  cases y2 : mayP m
  · simp -dsimp only [go_sem, F7, e_followsR, r_followsR, followsRP, Bool.true_or, Bool.false_or, Bool.or_false, Bool.or_true, Bool.and_true, Bool.true_and, Bool.false_and, Bool.and_false,  c_sameR h1 w.members m.members hw1, cw, cm, c_bsame h3 m.prev x lm.2.2.2.2, c_ofR h4 w.members m.by' hw1, c_stepR h5 w.members m.members m.by' ⟨lw.2.2.2.1, lm.2.2.2.1⟩, y1, y2]
  have hq := of_decide_eq_true y1
  have hq2 := of_decide_eq_true y2
  have hw : IntKind.i64.wrap (m.seq - 1) = m.seq - 1 := wrap_in (by have := hq2.2.2.1; have := hq2.2.2.2.1; omega)
  cases y3 : w.gone
  rotate_left
  · simp only [maniL, y3] at cw
    simp -dsimp only [go_sem, F7, e_followsR, r_followsR, followsRP, Bool.true_or, Bool.false_or, Bool.or_false, Bool.or_true, Bool.and_true, Bool.true_and, Bool.false_and, Bool.and_false,  c_sameR h1 w.members m.members hw1, cw, cm, c_bsame h3 m.prev x lm.2.2.2.2, c_ofR h4 w.members m.by' hw1, c_stepR h5 w.members m.members m.by' ⟨lw.2.2.2.1, lm.2.2.2.1⟩, y1, y2, hw, y3]
  simp only [maniL, y3] at cw
  cases y4 : decide (m.folder = w.folder)
  · simp -dsimp only [go_sem, F7, e_followsR, r_followsR, followsRP, Bool.true_or, Bool.false_or, Bool.or_false, Bool.or_true, Bool.and_true, Bool.true_and, Bool.false_and, Bool.and_false,  c_sameR h1 w.members m.members hw1, cw, cm, c_bsame h3 m.prev x lm.2.2.2.2, c_ofR h4 w.members m.by' hw1, c_stepR h5 w.members m.members m.by' ⟨lw.2.2.2.1, lm.2.2.2.1⟩, y1, y2, hw, y3, y4]
  cases y5 : decide (m.seq - 1 = w.seq)
  · simp -dsimp only [go_sem, F7, e_followsR, r_followsR, followsRP, Bool.true_or, Bool.false_or, Bool.or_false, Bool.or_true, Bool.and_true, Bool.true_and, Bool.false_and, Bool.and_false,  c_sameR h1 w.members m.members hw1, cw, cm, c_bsame h3 m.prev x lm.2.2.2.2, c_ofR h4 w.members m.by' hw1, c_stepR h5 w.members m.members m.by' ⟨lw.2.2.2.1, lm.2.2.2.1⟩, y1, y2, hw, y3, y4, y5]
  cases y6 : decide (m.prev = x)
  · simp -dsimp only [go_sem, F7, e_followsR, r_followsR, followsRP, Bool.true_or, Bool.false_or, Bool.or_false, Bool.or_true, Bool.and_true, Bool.true_and, Bool.false_and, Bool.and_false,  c_sameR h1 w.members m.members hw1, cw, cm, c_bsame h3 m.prev x lm.2.2.2.2, c_ofR h4 w.members m.by' hw1, c_stepR h5 w.members m.members m.by' ⟨lw.2.2.2.1, lm.2.2.2.1⟩, y1, y2, hw, y3, y4, y5, y6]
  cases y7 : m.gone
  rotate_left
  · simp only [maniL, y7] at cm
    cases y8 : decide (w.members = m.members) <;> cases y9 : decide (m.parent = w.parent) <;> cases y10 : decide (m.cut = w.cut) <;> cases z : decide (ofP w.members m.by' = 4)
    all_goals simp -dsimp only [go_sem, F7, e_followsR, r_followsR, followsRP, Bool.true_or, Bool.false_or, Bool.or_false, Bool.or_true, Bool.and_true, Bool.true_and, Bool.false_and, Bool.and_false,  c_sameR h1 w.members m.members hw1, cw, cm, c_bsame h3 m.prev x lm.2.2.2.2, c_ofR h4 w.members m.by' hw1, c_stepR h5 w.members m.members m.by' ⟨lw.2.2.2.1, lm.2.2.2.1⟩, y1, y2, hw, y3, y4, y5, y6, y7, y8, y9, y10, z]
  simp only [maniL, y7] at cm
  cases y9 : decide (m.parent = w.parent)
  · cases y8 : decide (w.members = m.members) <;> cases y10 : decide (m.cut = m.seq) <;> cases z : decide (ofP w.members m.by' = 4)
    all_goals simp -dsimp only [go_sem, F7, e_followsR, r_followsR, followsRP, Bool.true_or, Bool.false_or, Bool.or_false, Bool.or_true, Bool.and_true, Bool.true_and, Bool.false_and, Bool.and_false,  c_sameR h1 w.members m.members hw1, cw, cm, c_bsame h3 m.prev x lm.2.2.2.2, c_ofR h4 w.members m.by' hw1, c_stepR h5 w.members m.members m.by' ⟨lw.2.2.2.1, lm.2.2.2.1⟩, y1, y2, hw, y3, y4, y5, y6, y7, y8, y9, y10, z]
  rcases hs : stepRP w.members m.members m.by' with ⟨a, c⟩
  cases y11 : decide (c = 0)
  · simp -dsimp only [go_sem, F7, e_followsR, r_followsR, followsRP, Bool.true_or, Bool.false_or, Bool.or_false, Bool.or_true, Bool.and_true, Bool.true_and, Bool.false_and, Bool.and_false,  c_sameR h1 w.members m.members hw1, cw, cm, c_bsame h3 m.prev x lm.2.2.2.2, c_ofR h4 w.members m.by' hw1, c_stepR h5 w.members m.members m.by' ⟨lw.2.2.2.1, lm.2.2.2.1⟩, y1, y2, hw, y3, y4, y5, y6, y7, y9, hs, y11]
  cases y12 : a <;> cases y13 : decide (m.cut = m.seq) <;> cases y14 : decide (m.cut = w.cut)
  all_goals simp -dsimp only [go_sem, F7, e_followsR, r_followsR, followsRP, Bool.true_or, Bool.false_or, Bool.or_false, Bool.or_true, Bool.and_true, Bool.true_and, Bool.false_and, Bool.and_false,  c_sameR h1 w.members m.members hw1, cw, cm, c_bsame h3 m.prev x lm.2.2.2.2, c_ofR h4 w.members m.by' hw1, c_stepR h5 w.members m.members m.by' ⟨lw.2.2.2.1, lm.2.2.2.1⟩, y1, y2, hw, y3, y4, y5, y6, y7, y9, hs, y11, y12, y13, y14]
end Go.Proofs.Ytmijfhepagobdaa.Avm
