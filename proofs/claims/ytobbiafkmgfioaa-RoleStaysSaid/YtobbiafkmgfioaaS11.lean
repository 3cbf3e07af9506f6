/- Specs: a list with a name put in; the law of calls. -/
import Derived.Test.YtobbiafkmgfioaaD4
set_option linter.unusedVariables false
set_option linter.unusedSimpArgs false
namespace Go.Proofs.Ytobbiafkmgfioaa.Avm

theorem wFold_succ {l : List Mem} {i : Nat} (h : i < l.length) (n : Str) (r : Int) : wFold n r (l.take (i + 1)) = wStep n r (wFold n r (l.take i)) l[i] := by
  rw [List.take_succ_eq_append_getElem h]; simp only [wFold, List.foldl_append, List.foldl_cons, List.foldl_nil]
theorem wStep_len (n : Str) (r : Int) (p : Bool × List Mem) (m : Mem) : (wStep n r p m).2.length ≤ p.2.length + 2 := by
  unfold wStep
  simp only
  split <;> split <;> simp
theorem wFold_len (n : Str) (r : Int) (l : List Mem) (i : Nat) : i ≤ l.length → (wFold n r (l.take i)).2.length ≤ 2 * i := by
  induction i with
  | zero => intro _; simp [wFold]
  | succ i ih =>
    intro h
    have := ih (by omega)
    rw [wFold_succ (by omega)]
    have := wStep_len n r (wFold n r (l.take i)) l[i]
    omega
theorem ok_withR {E : Env} (hp : E.prim 70 = none) (hf : E.F 70 = some F70) : OkG E 70 e_withR (gd k_withR r_withR) := by
  refine OkG.code hp hf (fun _ => rfl) fun ⟨l, n, r⟩ S hk => ?_
  have hk : l.length ≤ 1000000 := hk
  simp -dsimp only [go_sem, F70, e_withR, r_withR]
  refine Ex.count (n := l.length) (i0 := 0) (fun i g T => g 0 = enc l ∧ g 1 = .str n ∧ g 2 = .int .i64 r ∧ g 8 = .bool (wFold n r (l.take i)).1 ∧ OwnL S T (g 7) (wFold n r (l.take i)).2) (by decide) (by omega) rfl (by omega) ⟨rfl, rfl, rfl, rfl, OwnL.nil List.prefix_rfl⟩ ?_ ?_ ?_
  · rintro i g T hi gi ⟨g0, g1, g2, g8, hO⟩
    simp -dsimp only [go_sem, gi, g0]
  · rintro i g T hi gi ⟨g0, g1, g2, g8, hO⟩
    have hlen := wFold_len n r l i (by omega)
    have ht := wFold_succ hi n r
    generalize wFold n r (l.take i) = p at hO g8 hlen ht
    obtain ⟨d, acc⟩ := p
    simp only at hO g8 hlen
    cases d with
    | true =>
      simp -dsimp only [go_sem, gi, g0, g1, g2, g8, ia_enc .i64 hi, ld_enc, c_mem]
      refine cnd_intro (fun h => ?_) (fun h => ?_) <;> simp only [Bool.not_eq_true', Bool.not_eq_false', decide_eq_true_eq, decide_eq_false_iff_not] at h
      · simp only [wStep, Bool.true_eq_false, false_and, if_false, if_neg h] at ht
        simp -dsimp only [go_sem, gi, g0, g1, g2, g8, ia_enc .i64 hi, ld_enc, c_mem]
        refine OwnL.app hO rfl (el_enc _ rfl) (by simp only [List.length_singleton]; omega) fun x T' hO' hK _ => ?_
        simp -dsimp only [go_sem, gi, g0, g1, g2, g8]
        rw [ht]; exact ⟨rfl, hO'⟩
      · simp only [wStep, Bool.true_eq_false, false_and, if_false, if_pos h] at ht
        simp -dsimp only [go_sem, gi, g0, g1, g2, g8]
        rw [ht]; exact ⟨rfl, hO⟩
    | false =>
      simp -dsimp only [go_sem, gi, g0, g1, g2, g8, ia_enc .i64 hi, ld_enc, c_mem]
      refine cnd_intro (fun h => ?_) (fun h => ?_)
      · have hh : (Op.bytesLess n l[i].name || decide (n = l[i].name)) = true := h
        simp -dsimp only [go_sem, gi, g0, g1, g2, g8, ia_enc .i64 hi, ld_enc, c_mem]
        refine OwnL.app hO rfl (el_enc _ rfl) (by simp only [List.length_singleton]; omega) fun x T' hO' hK _ => ?_
        simp -dsimp only [go_sem, gi, g0, g1, g2, g8, ia_enc .i64 hi, ld_enc, c_mem]
        refine cnd_intro (fun h => ?_) (fun h => ?_) <;> simp only [Bool.not_eq_true', Bool.not_eq_false', decide_eq_true_eq, decide_eq_false_iff_not] at h
        · simp only [wStep, hh, and_self, if_true, if_neg h] at ht
          simp -dsimp only [go_sem, gi, g0, g1, g2, g8, ia_enc .i64 hi, ld_enc, c_mem]
          refine OwnL.app hO' rfl (el_enc _ rfl) (by simp only [List.length_singleton, List.length_append]; omega) fun x T'' hO'' hK _ => ?_
          simp -dsimp only [go_sem, gi, g0, g1, g2, g8]
          rw [ht]; exact ⟨rfl, hO''⟩
        · simp only [wStep, hh, and_self, if_true, if_pos h] at ht
          simp -dsimp only [go_sem, gi, g0, g1, g2, g8]
          rw [ht]; exact ⟨rfl, hO'⟩
      · have hh : (Op.bytesLess n l[i].name || decide (n = l[i].name)) = false := h
        simp -dsimp only [go_sem, gi, g0, g1, g2, g8, ia_enc .i64 hi, ld_enc, c_mem]
        refine cnd_intro (fun h => ?_) (fun h => ?_) <;> simp only [Bool.not_eq_true', Bool.not_eq_false', decide_eq_true_eq, decide_eq_false_iff_not] at h
        · simp only [wStep, hh, Bool.false_eq_true, and_false, if_false, if_neg h] at ht
          simp -dsimp only [go_sem, gi, g0, g1, g2, g8, ia_enc .i64 hi, ld_enc, c_mem]
          refine OwnL.app hO rfl (el_enc _ rfl) (by simp only [List.length_singleton]; omega) fun x T' hO' hK _ => ?_
          simp -dsimp only [go_sem, gi, g0, g1, g2, g8]
          rw [ht]; exact ⟨rfl, hO'⟩
        · simp only [Bool.or_eq_false_iff, decide_eq_false_iff_not] at hh
          exact absurd h.symm hh.2
  · rintro g T gi ⟨g0, g1, g2, g8, hO⟩
    rw [List.take_length] at hO g8
    have hlen := wFold_len n r l l.length (Nat.le_refl _)
    rw [List.take_length] at hlen
    simp -dsimp only [go_sem, g8]
    refine cnd_intro (fun h => ?_) (fun h => ?_) <;> simp only [Bool.not_eq_true', Bool.not_eq_false', decide_eq_true_eq, decide_eq_false_iff_not] at h
    · simp -dsimp only [go_sem, gi, g0, g1, g2, g8, F70, r_withR]
      refine OwnL.app hO rfl (el_enc _ rfl) (by simp only [List.length_singleton]; omega) fun x T' hO' hK _ => ?_
      simp -dsimp only [go_sem, gi, g0, g1, g2, g8, F70, r_withR]
      have e : withRP l n r = (wFold n r l).2 ++ [⟨n, r⟩] := by simp only [withRP, h, Bool.false_eq_true, if_false]
      rw [e]; exact hO'.conv
    · simp -dsimp only [go_sem, gi, g0, g1, g2, g8, F70, r_withR]
      have e : withRP l n r = (wFold n r l).2 := by simp only [withRP, h, if_true]
      rw [e]; exact hO.conv

/-! ### the plain law -/
def wRec (n : Str) (r : Int) : Bool → List Mem → List Mem
  | d, [] => if d = true then [] else [⟨n, r⟩]
  | d, m :: l => (if d = false ∧ (Op.bytesLess n m.name || decide (n = m.name)) = true then [⟨n, r⟩] else []) ++ ((if m.name = n then [] else [m]) ++ wRec n r (d || (Op.bytesLess n m.name || decide (n = m.name))) l)
def outF (n : Str) (r : Int) (p : Bool × List Mem) : List Mem := if p.1 = true then p.2 else p.2 ++ [⟨n, r⟩]
theorem wRec_eq (n : Str) (r : Int) : ∀ (l : List Mem) (d : Bool) (acc : List Mem), outF n r (l.foldl (wStep n r) (d, acc)) = acc ++ wRec n r d l
  | [], d, acc => by cases d <;> simp [wRec, outF]
  | m :: l, d, acc => by
    have ih := fun d acc => wRec_eq n r l d acc
    rw [List.foldl_cons]
    simp only [wRec]
    rw [show wStep n r (d, acc) m = (d || (Op.bytesLess n m.name || decide (n = m.name)), acc ++ ((if d = false ∧ (Op.bytesLess n m.name || decide (n = m.name)) = true then [⟨n, r⟩] else []) ++ (if m.name = n then [] else [m]))) from by
      unfold wStep
      by_cases h1 : m.name = n
      · have h2 : n = m.name := h1.symm
        cases d <;> simp [h1]
      · cases d <;> cases h3 : (Op.bytesLess n m.name || decide (n = m.name)) <;> simp [h1], ih]
    simp only [List.append_assoc]
theorem withRP_eq (l : List Mem) (n : Str) (r : Int) : withRP l n r = wRec n r (decide (r = 0)) l := by
  have := wRec_eq n r l (decide (r = 0)) []
  rw [List.nil_append] at this; exact this
def srt (l : List Mem) : Prop := l.Pairwise fun a b => Op.bytesLess a.name b.name = true
theorem right_srt {l : List Mem} (h : rightP l = true) : srt l := by
  have := ((right_iff l).1 h).2.1
  exact List.pairwise_map.1 this
theorem ne_of_less {a b : Str} (h : Op.bytesLess a b = true) : a ≠ b := fun e => by rw [e, bl_irrefl] at h; cases h
theorem wRec_true (n : Str) (r : Int) (l : List Mem) : wRec n r true l = l.filter fun m => decide (m.name ≠ n) := by
  induction l with
  | nil => rfl
  | cons m l ih =>
    simp only [wRec, Bool.true_eq_false, false_and, if_false, List.nil_append, Bool.true_or, ih, List.filter_cons]
    by_cases h : m.name = n <;> simp [h]
theorem filter_gone {n : Str} {l : List Mem} (h : ∀ m, m ∈ l → m.name ≠ n) : (l.filter fun m => decide (m.name ≠ n)) = l := List.filter_eq_self.2 fun m hm => by simpa using h m hm
theorem erase_eq {n : Str} : ∀ {l : List Mem} {j : Nat} (hj : j < l.length), srt l → l[j].name = n → (l.filter fun m => decide (m.name ≠ n)) = l.eraseIdx j
  | m :: l, 0, _, hs, hn => by
    simp only [List.getElem_cons_zero] at hn
    have hs' := List.pairwise_cons.1 hs
    rw [List.filter_cons, if_neg (by simp [hn]), filter_gone fun x hx => ?_]
    · rfl
    · have := ne_of_less (hs'.1 x hx); rw [hn] at this; exact fun e => this e.symm
  | m :: l, j + 1, hj, hs, hn => by
    simp only [List.getElem_cons_succ] at hn
    have hs' := List.pairwise_cons.1 hs
    have := ne_of_less (hs'.1 _ (List.getElem_mem (by simpa using hj)))
    rw [hn] at this
    rw [List.filter_cons, if_pos (by simpa using this), erase_eq (by simpa using hj) hs'.2 hn]
    rfl
theorem set_eq {n : Str} {r : Int} : ∀ {l : List Mem} {j : Nat} (hj : j < l.length), srt l → l[j].name = n → wRec n r false l = l.set j ⟨n, r⟩
  | m :: l, 0, _, hs, hn => by
    simp only [List.getElem_cons_zero] at hn
    have hs' := List.pairwise_cons.1 hs
    have hg : ∀ x, x ∈ l → x.name ≠ n := fun x hx => by have := ne_of_less (hs'.1 x hx); rw [hn] at this; exact fun e => this e.symm
    simp [wRec, hn, wRec_true]
    exact hg
  | m :: l, j + 1, hj, hs, hn => by
    simp only [List.getElem_cons_succ] at hn
    have hs' := List.pairwise_cons.1 hs
    have hl := hs'.1 _ (List.getElem_mem (by simpa using hj))
    rw [hn] at hl
    have h1 := ne_of_less hl
    have h2 := bl_asymm hl
    have h3 : ¬ n = m.name := fun e => h1 e.symm
    simp only [wRec, h2, h3, decide_false, Bool.or_false, Bool.false_eq_true, and_false, if_false, if_neg h1, List.nil_append, set_eq (by simpa using hj) hs'.2 hn, List.set_cons_succ, List.singleton_append]
theorem wRec_last {n : Str} {r : Int} {a : Mem} (ha : Op.bytesLess n a.name = true) : ∀ (l : List Mem) (d : Bool), wRec n r d (l ++ [a]) = wRec n r d l ++ [a]
  | [], d => by
    have h1 : ¬ a.name = n := fun e => ne_of_less ha e.symm
    cases d <;> simp [wRec, ha, h1]
  | m :: l, d => by simp only [List.cons_append, wRec, wRec_last ha l, List.append_assoc]
theorem wRec_all {n : Str} {r : Int} : ∀ (l : List Mem), (∀ m, m ∈ l → Op.bytesLess m.name n = true) → wRec n r false l = l ++ [⟨n, r⟩]
  | [], _ => rfl
  | m :: l, h => by
    have hl := h m List.mem_cons_self
    have h1 := ne_of_less hl
    have h2 := bl_asymm hl
    have h3 : ¬ n = m.name := fun e => h1 e.symm
    simp only [wRec, h2, h3, decide_false, Bool.or_false, Bool.false_eq_true, and_false, if_false, if_neg h1, List.nil_append, wRec_all l (fun x hx => h x (List.mem_cons_of_mem _ hx)), List.singleton_append, List.cons_append]
theorem insG_eq {n : Str} {r : Int} : ∀ (rA B : List Mem), srt rA.reverse → (∀ m, m ∈ rA → m.name ≠ n) → insG ⟨n, r⟩ rA B = wRec n r false rA.reverse ++ B
  | [], B, _, _ => rfl
  | a :: rA, B, hs, hn => by
    rw [List.reverse_cons] at hs ⊢
    have hs' := List.pairwise_append.1 hs
    simp only [insG]
    by_cases h : Op.bytesLess n a.name = true
    · rw [if_pos h, insG_eq rA _ hs'.1 fun m hm => hn m (List.mem_cons_of_mem _ hm), wRec_last h]; simp
    · rw [if_neg h]
      have h1 : Op.bytesLess a.name n = true := by
        cases hh : Op.bytesLess a.name n with
        | true => rfl
        | false => exact absurd (bl_tri _ _ hh (by simpa using h)) (hn a List.mem_cons_self)
      rw [wRec_all _ fun m hm => ?_]
      · simp
      · rcases List.mem_append.1 hm with hm | hm
        · exact bl_trans _ _ _ (hs'.2.2 m hm a (List.mem_singleton.2 rfl)) h1
        · rw [List.mem_singleton.1 hm]; exact h1
theorem insG_top {x : Mem} : ∀ (acc : List Mem), (∀ m, m ∈ acc → Op.bytesLess m.name x.name = true) → insG x acc.reverse [] = acc ++ [x] := fun acc h => by
  cases hr : acc.reverse with
  | nil => have : acc = [] := by simpa using hr
           subst this; rfl
  | cons a rA =>
    have ha : a ∈ acc := by rw [← List.mem_reverse, hr]; exact List.mem_cons_self
    simp only [insG, bl_asymm (h a ha), Bool.false_eq_true, if_false]
    rw [← hr, List.reverse_reverse]
theorem isortG_run {x : Mem} : ∀ (l acc : List Mem), srt (acc ++ l) → isortG acc (l ++ [x]) = insG x (acc ++ l).reverse []
  | [], acc, _ => by simp [isortG]
  | y :: l, acc, hs => by
    have h1 := List.pairwise_append.1 hs
    rw [List.cons_append, isortG, insG_top acc fun m hm => h1.2.2 m hm y List.mem_cons_self, isortG_run l _ (by simpa using hs)]
    simp
theorem share_list {l : List Mem} (h : rightP l = true) {n : Str} (hn : ofP l n = 0) {r : Int} (hr : isRole r = true) : isort (l ++ [⟨n, r⟩]) = withRP l n r := by
  have hs := right_srt h
  have hr0 : ¬ r = 0 := by simp only [isRole, decide_eq_true_eq] at hr; omega
  have hne : ∀ m, m ∈ l → m.name ≠ n := by
    rcases atP_spec l n with ⟨_, _, h3⟩ | ⟨j, hj, _, h2, _⟩
    · exact h3
    · have := (((right_iff l).1 h).1 _ (List.getElem_mem hj)).2
      simp only [isRole, decide_eq_true_eq] at this
      omega
  rw [withRP_eq, decide_eq_false hr0]
  cases l with
  | nil => rfl
  | cons a l =>
    simp only [List.cons_append, isort]
    rw [isortG_run l [a] hs, insG_eq _ _ (by simpa using hs) (fun m hm => hne m (by simpa [or_comm] using hm))]
    simp
theorem change_list {l : List Mem} (h : rightP l = true) {n : Str} (hn : ofP l n ≠ 0) {r : Int} (hr : isRole r = true) : l.set (atP l n).toNat ⟨n, r⟩ = withRP l n r := by
  have hr0 : ¬ r = 0 := by simp only [isRole, decide_eq_true_eq] at hr; omega
  rcases atP_spec l n with ⟨_, h2, _⟩ | ⟨j, hj, h1, _, h3, _⟩
  · exact absurd h2 hn
  · rw [withRP_eq, decide_eq_false hr0, h1, set_eq hj (right_srt h) h3]; rfl
theorem revoke_list {l : List Mem} (h : rightP l = true) {n : Str} (hn : ofP l n ≠ 0) : l.eraseIdx (atP l n).toNat = withRP l n 0 := by
  rcases atP_spec l n with ⟨_, h2, _⟩ | ⟨j, hj, h1, _, h3, _⟩
  · exact absurd h2 hn
  · rw [withRP_eq, decide_eq_true rfl, wRec_true, h1, erase_eq hj (right_srt h) h3]; rfl
theorem revoke_all {l : List Mem} (h : rightP l = true) {n : Str} (hn : nameOk n = true) (b : Str) : (revokeRP l b n = 0 ∧ revokeP l b n = (withRP l n 0, 0)) ∨ ∃ c, c ≠ 0 ∧ revokeRP l b n = c ∧ revokeP l b n = ([], c) := by
  have e := revoke_eq h hn b
  have h1 := (of_at h n).1
  rcases hc : revokeP l b n with ⟨x, c⟩
  rw [hc] at e
  simp only at e
  by_cases h0 : c = 0
  · subst h0
    refine .inl ⟨e.symm, ?_⟩
    simp only [revokeP] at hc
    repeat' split at hc
    all_goals first | (cases hc; done) | skip
    rename_i h2 h3 h4 h5
    cases hc
    rw [revoke_list h (fun q => h3 (h1.2 q))]
  · refine .inr ⟨c, h0, e.symm, ?_⟩
    simp only [revokeP] at hc
    repeat' split at hc
    all_goals first | (cases hc; rfl) | (cases hc; exact absurd rfl h0)
theorem share_all {l : List Mem} (h : rightP l = true) {n : Str} (hn : nameOk n = true) {r : Int} (hr : isRole r = true) (b : Str) : (shareRP l b n r = 0 ∧ shareP l b n r = (withRP l n r, 0)) ∨ ∃ c, c ≠ 0 ∧ shareRP l b n r = c ∧ shareP l b n r = ([], c) := by
  have e := share_eq h hn hr b
  have h1 := of_at h n
  rcases hc : shareP l b n r with ⟨x, c⟩
  rw [hc] at e
  simp only at e
  by_cases h0 : c = 0
  · subst h0
    refine .inl ⟨e.symm, ?_⟩
    simp only [shareP] at hc
    repeat' split at hc
    all_goals first | (cases hc; done) | skip
    rename_i h2 h3 h4 h5
    cases hc
    rw [share_list h (h1.1.1 (by omega)) hr]
  · refine .inr ⟨c, h0, e.symm, ?_⟩
    simp only [shareP] at hc
    repeat' split at hc
    all_goals first | (cases hc; rfl) | (cases hc; exact absurd rfl h0)
theorem change_all {l : List Mem} (h : rightP l = true) {n : Str} (hn : nameOk n = true) {r : Int} (hr : isRole r = true) (b : Str) : (changeRP l b n r = 0 ∧ changeP l b n r = (withRP l n r, 0)) ∨ ∃ c, c ≠ 0 ∧ changeRP l b n r = c ∧ changeP l b n r = ([], c) := by
  have e := change_eq h hn hr b
  have h1 := of_at h n
  rcases hc : changeP l b n r with ⟨x, c⟩
  rw [hc] at e
  simp only at e
  by_cases h0 : c = 0
  · subst h0
    refine .inl ⟨e.symm, ?_⟩
    simp only [changeP] at hc
    repeat' split at hc
    all_goals first | (cases hc; done) | skip
    rename_i h2 h3 h4 h5
    cases hc
    rw [change_list h (fun q => h3 (h1.1.2 q)) hr]
  · refine .inr ⟨c, h0, e.symm, ?_⟩
    simp only [changeP] at hc
    repeat' split at hc
    all_goals first | (cases hc; rfl) | (cases hc; exact absurd rfl h0)
end Go.Proofs.Ytobbiafkmgfioaa.Avm
