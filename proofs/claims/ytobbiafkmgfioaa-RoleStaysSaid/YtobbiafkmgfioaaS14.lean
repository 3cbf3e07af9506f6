/- What is done to a right list leaves it right: the plain law. -/
import Derived.Test.YtobbiafkmgfioaaD5
set_option linter.unusedVariables false
set_option linter.unusedSimpArgs false
namespace Go.Proofs.Ytobbiafkmgfioaa.Avm

theorem ofP_app_one (m : Mem) (l : List Mem) (x : Str) : ofP (m :: l) x = if m.name = x then m.role else ofP l x := rfl
theorem of_other {n : Str} {r : Int} {x : Str} (hx : x ≠ n) : ∀ (l : List Mem) (d : Bool), ofP (wRec n r d l) x = ofP l x
  | [], d => by
    have hnx : ¬ n = x := fun e => hx e.symm
    cases d <;> simp [wRec, ofP, hnx]
  | m :: l, d => by
    have hnx : ¬ n = x := fun e => hx e.symm
    have ih := of_other (r := r) hx l
    simp only [wRec]
    by_cases h1 : m.name = n
    · have h2 : ¬ m.name = x := by rw [h1]; exact hnx
      split <;> simp [ofP, h1, hnx, ih]
    · split <;> simp [ofP, h1, hnx, ih]
theorem of_self {n : Str} {r : Int} : ∀ (l : List Mem), ofP (wRec n r false l) n = r
  | [] => by simp [wRec, ofP]
  | m :: l => by
    simp only [wRec]
    cases h : (Op.bytesLess n m.name || decide (n = m.name))
    · have h1 : ¬ m.name = n := fun e => by simp [e] at h
      simp [ofP, h1, of_self l]
    · simp [ofP]
theorem of_gone {n : Str} (l : List Mem) : ofP (l.filter fun m => decide (m.name ≠ n)) n = 0 := by
  induction l with
  | nil => rfl
  | cons m l ih =>
    rw [List.filter_cons]
    by_cases h : m.name = n
    · simp only [h, ne_eq, not_true_eq_false, decide_false, Bool.false_eq_true, if_false]; exact ih
    · simp only [ne_eq, h, not_false_eq_true, decide_true, if_true, ofP, if_false]; exact ih
theorem of_with (l : List Mem) (n : Str) (r : Int) (x : Str) : ofP (withRP l n r) x = if x = n then r else ofP l x := by
  rw [withRP_eq]
  by_cases h : x = n
  · subst h
    rw [if_pos rfl]
    by_cases h0 : r = 0
    · rw [decide_eq_true h0, wRec_true, h0]; exact of_gone l
    · rw [decide_eq_false h0]; exact of_self l
  · rw [if_neg h]; exact of_other h l _
theorem mem_wRec {n : Str} {r : Int} : ∀ (l : List Mem) (d : Bool) (m : Mem), m ∈ wRec n r d l → (m = ⟨n, r⟩ ∧ d = false) ∨ (m ∈ l ∧ m.name ≠ n)
  | [], d, m, h => by cases d <;> simp [wRec] at h; exact .inl ⟨h, rfl⟩
  | x :: l, d, m, h => by
    simp only [wRec, List.mem_append] at h
    rcases h with h | h | h
    · split at h
      · rename_i hd; rw [List.mem_singleton.1 h]; exact .inl ⟨rfl, hd.1⟩
      · cases h
    · split at h
      · cases h
      · rename_i hx; rw [List.mem_singleton.1 h]; exact .inr ⟨List.mem_cons_self, hx⟩
    · rcases mem_wRec l _ m h with ⟨h1, h2⟩ | ⟨h1, h2⟩
      · exact .inl ⟨h1, by cases d <;> simp_all⟩
      · exact .inr ⟨List.mem_cons_of_mem _ h1, h2⟩
theorem mem_with {l : List Mem} {n : Str} {r : Int} {m : Mem} (h : m ∈ withRP l n r) : (m = ⟨n, r⟩ ∧ r ≠ 0) ∨ (m ∈ l ∧ m.name ≠ n) := by
  rw [withRP_eq] at h
  rcases mem_wRec l _ m h with ⟨h1, h2⟩ | h1
  · exact .inl ⟨h1, by simpa using h2⟩
  · exact .inr h1
theorem srt_filter {l : List Mem} (h : srt l) (p : Mem → Bool) : srt (l.filter p) := List.Pairwise.sublist List.filter_sublist h
theorem srt_wRec {n : Str} {r : Int} : ∀ (l : List Mem), srt l → srt (wRec n r false l)
  | [], _ => by simp [wRec, srt]
  | m :: l, hs => by
    have hs' := List.pairwise_cons.1 hs
    simp only [wRec]
    cases h : (Op.bytesLess n m.name || decide (n = m.name))
    · have h1 : ¬ m.name = n := fun e => by simp [e] at h
      have h2 : Op.bytesLess m.name n = true := by
        simp only [Bool.or_eq_false_iff, decide_eq_false_iff_not] at h
        cases hh : Op.bytesLess m.name n with
        | true => rfl
        | false => exact absurd (bl_tri _ _ hh h.1) h1
      simp only [Bool.false_eq_true, and_false, if_false, List.nil_append, if_neg h1, List.singleton_append, Bool.or_self]
      refine List.pairwise_cons.2 ⟨fun x hx => ?_, srt_wRec l hs'.2⟩
      rcases mem_wRec l _ x hx with ⟨rfl, _⟩ | ⟨hx, _⟩
      · exact h2
      · exact hs'.1 x hx
    · simp only [and_self, if_true, List.singleton_append, Bool.false_or, wRec_true]
      refine List.pairwise_cons.2 ⟨fun x hx => ?_, ?_⟩
      · have hx : (x = m ∧ m.name ≠ n) ∨ (x ∈ l ∧ x.name ≠ n) := by
          rcases List.mem_append.1 hx with hx | hx
          · split at hx
            · cases hx
            · rename_i q; exact .inl ⟨List.mem_singleton.1 hx, q⟩
          · have := List.mem_filter.1 hx; exact .inr ⟨this.1, by simpa using this.2⟩
        simp only [Bool.or_eq_true, decide_eq_true_eq] at h
        rcases hx with ⟨rfl, q⟩ | ⟨hx, q⟩
        · rcases h with h | h
          · exact h
          · exact absurd h.symm q
        · rcases h with h | h
          · exact bl_trans _ _ _ h (hs'.1 x hx)
          · show Op.bytesLess n x.name = true; rw [h]; exact hs'.1 x hx
      · split
        · exact srt_filter hs'.2 _
        · exact List.pairwise_cons.2 ⟨fun x hx => hs'.1 x (List.mem_filter.1 hx).1, srt_filter hs'.2 _⟩
theorem srt_with {l : List Mem} (h : srt l) (n : Str) (r : Int) : srt (withRP l n r) := by
  rw [withRP_eq]
  cases decide (r = 0) with
  | true => rw [wRec_true]; exact srt_filter h _
  | false => exact srt_wRec l h
theorem wRec_len {n : Str} {r : Int} : ∀ (l : List Mem), (wRec n r false l).length ≤ l.length + 1
  | [] => by simp [wRec]
  | m :: l => by
    have ih := wRec_len (n := n) (r := r) l
    simp only [wRec]
    cases h : (Op.bytesLess n m.name || decide (n = m.name))
    · by_cases h1 : m.name = n <;> simp [h1] <;> omega
    · have := List.length_filter_le (fun m : Mem => decide (m.name ≠ n)) l
      rw [Bool.or_true, wRec_true]
      by_cases h1 : m.name = n <;> simp [h1] at this ⊢ <;> omega
theorem of_mem : ∀ {l : List Mem}, srt l → ∀ {m : Mem}, m ∈ l → ofP l m.name = m.role
  | x :: l, hs, m, hm => by
    have hs' := List.pairwise_cons.1 hs
    rcases List.mem_cons.1 hm with rfl | hm
    · simp [ofP]
    · have := ne_of_less (hs'.1 m hm)
      simp only [ofP, if_neg this]; exact of_mem hs'.2 hm
theorem of_pos {l : List Mem} {x : Str} (h : ofP l x ≠ 0) : ∃ m, m ∈ l ∧ m.name = x ∧ m.role = ofP l x := by
  rcases atP_spec l x with ⟨_, h2, _⟩ | ⟨j, hj, _, h2, h3, _⟩
  · exact absurd h2 h
  · exact ⟨l[j], List.getElem_mem hj, h3, h2.symm⟩
theorem owners_pos {l : List Mem} {x : Str} (h : ofP l x = 4) : ownersRP l ≠ 0 := by
  obtain ⟨m, hm, _, hr⟩ := of_pos (l := l) (x := x) (by omega)
  intro h0
  have : m ∈ l.filter fun m => decide (m.role = 4) := List.mem_filter.2 ⟨hm, by simpa using hr.trans h⟩
  rw [List.eq_nil_of_length_eq_zero h0] at this; cases this
theorem one_name {n : Str} : ∀ {l : List Mem}, srt l → (∀ m, m ∈ l → m.name = n) → l ≠ [] → l.map (·.name) = [n]
  | [], _, _, h => absurd rfl h
  | [a], _, h, _ => by simp [h a List.mem_cons_self]
  | a :: b :: l, hs, h, _ => by
    have := (List.pairwise_cons.1 hs).1 b (List.mem_cons_self)
    rw [h a List.mem_cons_self, h b (List.mem_cons_of_mem _ List.mem_cons_self), bl_irrefl] at this; cases this
theorem owner_stays {l nx : List Mem} {n : Str} {r : Int} (hs : srt l) (h0 : ownersRP l ≠ 0) (hof : ∀ x, ofP nx x = if x = n then r else ofP l x) (hg : ¬ (ofP l n = 4 ∧ r ≠ 4 ∧ ownersRP l = 1)) : ownersRP nx ≠ 0 := by
  by_cases hx : ∃ m, m ∈ l ∧ m.role = 4 ∧ m.name ≠ n
  · obtain ⟨m, hm, h4, hne⟩ := hx
    exact owners_pos (x := m.name) (by rw [hof, if_neg hne, of_mem hs hm, h4])
  · have hall : ∀ m, m ∈ (l.filter fun m => decide (m.role = 4)) → m.name = n := fun m hm => by
      have := List.mem_filter.1 hm
      exact Classical.byContradiction fun q => hx ⟨m, this.1, by simpa using this.2, q⟩
    have hne : (l.filter fun m => decide (m.role = 4)) ≠ [] := fun e => h0 (by simp only [ownersRP, e, List.length_nil])
    have h1 := one_name (srt_filter hs _) hall hne
    have hl : ownersRP l = 1 := by have := congrArg List.length h1; simpa [ownersRP] using this
    obtain ⟨m, hm⟩ := List.exists_mem_of_ne_nil _ hne
    have hm' := List.mem_filter.1 hm
    have hof4 : ofP l n = 4 := by rw [← hall m hm, of_mem hs hm'.1]; simpa using hm'.2
    have hr : r = 4 := Classical.byContradiction fun q => hg ⟨hof4, q, hl⟩
    exact owners_pos (x := n) (by rw [hof, if_pos rfl, hr])

theorem good_of {l nx : List Mem} {n b : Str} {r : Int} (h : rightP l = true) (hn : nameOk n = true) (hr : 0 ≤ r ∧ r ≤ 4) (e : nx = withRP l n r) (hne : ofP l n ≠ 0 ∨ r ≠ 0) (hlen : nx.length ≤ 8) (hown : ¬ (ofP l n = 4 ∧ r ≠ 4 ∧ ownersRP l = 1))
    (hb : ¬ (ofP l b < 3 ∧ b ≠ n)) (hc : ofP l b < 4 → (3 ≤ ofP l n ∨ 3 ≤ r) → b = n ∧ r = 0) (hst : ofP l n ≠ r → stepE l nx b n = 0) : Good l nx b n := by
  have hs := right_srt h
  have hl := (right_iff l).1 h
  have hof : ∀ x, ofP nx x = if x = n then r else ofP l x := fun x => by rw [e]; exact of_with l n r x
  have hself : ofP nx n = r := by rw [hof, if_pos rfl]
  have hnx : srt nx := by rw [e]; exact srt_with hs n r
  have hmem : ∀ m, m ∈ nx → (m = ⟨n, r⟩ ∧ r ≠ 0) ∨ (m ∈ l ∧ m.name ≠ n) := fun m hm => by rw [e] at hm; exact mem_with hm
  have hright : rightP nx = true := by
    refine (right_iff nx).2 ⟨fun m hm => ?_, List.pairwise_map.2 hnx, hlen, owner_stays hs hl.2.2.2 hof hown⟩
    rcases hmem m hm with ⟨rfl, h0⟩ | ⟨hm, _⟩
    · exact ⟨hn, by simp only [isRole, decide_eq_true_eq]; omega⟩
    · exact hl.1 m hm
  have role0 : ∀ m, m ∈ l → m.role ≠ 0 := fun m hm => by have := (hl.1 m hm).2; simp only [isRole, decide_eq_true_eq] at this; omega
  have pA : ∀ m, m ∈ l → (decide (ofP nx m.name ≠ m.role) = true ↔ m.name = n ∧ ofP l n ≠ r) := fun m hm => by
    rw [decide_eq_true_eq, hof]
    by_cases q : m.name = n
    · rw [if_pos q, ← of_mem hs hm, q]; simp only [true_and]; exact ⟨fun a b => a b.symm, fun a b => a b.symm⟩
    · rw [if_neg q, of_mem hs hm]; simp [q]
  have pB : ∀ m, m ∈ nx → (decide (ofP l m.name = 0) = true ↔ m.name = n ∧ ofP l n = 0) := fun m hm => by
    rw [decide_eq_true_eq]
    rcases hmem m hm with ⟨rfl, h0⟩ | ⟨hm, q⟩
    · simp
    · rw [of_mem hs hm]; simp [q, role0 m hm]
  refine ⟨hright, hb, fun a q => by rw [hself] at q ⊢; exact hc a q, fun m hm q => by rw [hof, if_neg q, of_mem hs hm], fun q => ?_, fun q => ?_⟩
  · rw [hself] at q
    have hd : differP l nx = [n] := by
      unfold differP
      by_cases h0 : ofP l n = 0
      · have hA : (l.filter fun m => decide (ofP nx m.name ≠ m.role)) = [] := List.filter_eq_nil_iff.2 fun m hm hh => by
          have := (pA m hm).1 hh
          rw [← this.1, of_mem hs hm] at h0; exact role0 m hm h0
        have hin : (⟨n, r⟩ : Mem) ∈ nx := by
          obtain ⟨m, hm, hmn, hmr⟩ := of_pos (l := nx) (x := n) (by rw [hself]; omega)
          rw [hself] at hmr
          have : m = ⟨n, r⟩ := mem_ext.2 ⟨hmn, hmr⟩
          rw [← this]; exact hm
        rw [hA, List.map_nil, List.nil_append]
        refine one_name (srt_filter hnx _) (fun m hm => ((pB m (List.mem_filter.1 hm).1).1 (List.mem_filter.1 hm).2).1) (List.ne_nil_of_mem (List.mem_filter.2 ⟨hin, (pB _ hin).2 ⟨rfl, h0⟩⟩))
      · have hB : (nx.filter fun m => decide (ofP l m.name = 0)) = [] := List.filter_eq_nil_iff.2 fun m hm hh => h0 ((pB m hm).1 hh).2
        obtain ⟨m, hm, hmn, _⟩ := of_pos h0
        rw [hB, List.map_nil, List.append_nil]
        exact one_name (srt_filter hs _) (fun m hm => ((pA m (List.mem_filter.1 hm).1).1 (List.mem_filter.1 hm).2).1) (List.ne_nil_of_mem (List.mem_filter.2 ⟨hm, (pA m hm).2 ⟨hmn, q⟩⟩))
    simp only [stepP, h, hright, hd, Bool.true_eq_false, or_self, if_false, List.length_singleton, ne_eq, not_true_eq_false, List.headD_cons, hst q, hself, decide_true, Bool.and_true]
  · rw [hself] at q
    have hd : differP l nx = [] := by
      unfold differP
      rw [List.filter_eq_nil_iff.2 fun m hm hh => ((pA m hm).1 hh).2 q, List.filter_eq_nil_iff.2 fun m hm hh => ?_]
      · rfl
      · have := ((pB m hm).1 hh).2; rcases hne with q2 | q2 <;> omega
    simp [stepP, h, hright, hd]
end Go.Proofs.Ytobbiafkmgfioaa.Avm
