/- A region whose order is drawn. -/
import Derived.Test.YtmijfhepagobdaaA16
set_option linter.unusedVariables false
set_option linter.unusedSimpArgs false
set_option linter.unusedSectionVars false
namespace Go.Proofs.Ytmijfhepagobdaa.Avm
open Go.RowKit

def deps (o : Oper) : List Nat := (o.after.toList.filter (Region.binds .any)).map (·.on)

theorem ancs_spec : ∀ (ops : List Oper) (acc : List (List Nat)), (∀ i, i < acc.length → (ancs acc ops)[i]? = acc[i]?) ∧
    ∀ j o, ops[j]? = some o → ∀ i, i ∈ (ancs acc ops).getD (acc.length + j) [] → i ∈ deps o ∨ ∃ d, d ∈ deps o ∧ d < acc.length + j ∧ i ∈ (ancs acc ops).getD d []
  | [], acc => ⟨fun i _ => rfl, fun j o h => by simp at h⟩
  | o' :: ops, acc => by
    have ih := ancs_spec ops (acc ++ [deps o' ++ (deps o').flatMap fun d => acc.getD d []])
    have e : ancs acc (o' :: ops) = ancs (acc ++ [deps o' ++ (deps o').flatMap fun d => acc.getD d []]) ops := rfl
    rw [e]
    obtain ⟨h1, h2⟩ := ih
    have hpre : ∀ i, i < acc.length → (ancs (acc ++ [deps o' ++ (deps o').flatMap fun d => acc.getD d []]) ops)[i]? = acc[i]? := fun i hi => by
      rw [h1 i (by simp; omega), List.getElem?_append_left hi]
    refine ⟨hpre, fun j o hj i hi => ?_⟩
    cases j with
    | zero =>
      simp at hj; subst hj
      rw [Nat.add_zero, List.getD_eq_getElem?_getD, h1 acc.length (by simp)] at hi
      rw [List.getElem?_append_right (Nat.le_refl _)] at hi
      simp only [Nat.sub_self, List.getElem?_cons_zero, Option.getD_some, List.mem_append, List.mem_flatMap] at hi
      rcases hi with hi | ⟨d, hd, hi⟩
      · exact .inl hi
      · have hlt : d < acc.length := by
          rcases Nat.lt_or_ge d acc.length with h | h
          · exact h
          · rw [List.getD_eq_getElem?_getD, List.getElem?_eq_none h] at hi; simp at hi
        exact .inr ⟨d, hd, by omega, by rw [List.getD_eq_getElem?_getD, hpre d hlt, ← List.getD_eq_getElem?_getD]; exact hi⟩
    | succ j =>
      have := h2 j o (by simpa using hj) i (by simpa [Nat.add_assoc, Nat.add_comm 1] using hi)
      rcases this with h | ⟨d, a, b, c⟩
      · exact .inl h
      · exact .inr ⟨d, a, by simp at b; omega, c⟩

section
variable {ops : List Oper} {Lst : Nat → Prop}
/-- what a done operation waited for is done -/
theorem anc_done (hcl : ∀ j o, Lst j → ops[j]? = some o → ∀ d ∈ deps o, Lst d) : ∀ (j : Nat) (o : Oper), ops[j]? = some o → (∀ d ∈ deps o, Lst d) → ∀ i, i ∈ (ancs [] ops).getD j [] → Lst i := by
  intro j
  induction j using Nat.strongRecOn with
  | ind j ih =>
    intro o ho hd i hi
    rcases (ancs_spec ops []).2 j o ho i (by simpa using hi) with h | ⟨d, h1, h2, h3⟩
    · exact hd i h
    · have hdl : d < ops.length := by have := (List.getElem?_eq_some_iff.1 ho).1; simp at h2; omega
      have hod := List.getElem?_eq_getElem hdl
      exact ih d (by simpa using h2) _ hod (hcl d _ (hd d h1) hod) i h3

structure Pair (ops : List Oper) (ins : List AIns) (fl : List (Nat × Nat)) (i j : Nat) : Prop where
  it : i ∈ (ancs [] ops).getD j [] ∨ ∃ (x y : Oper) (a b : AIns), ops[i]? = some x ∧ ops[j]? = some y ∧ ins[i]? = some a ∧ ins[j]? = some b ∧ sep ops x y = true ∧ sep ops y x = true ∧ ¬ (isEvent a.op = true ∧ isEvent b.op = true) ∧
    (isRead a.op = true → isEvent b.op = true → (i, j) ∈ fl) ∧ (isEvent a.op = true → isRead b.op = true → (j, i) ∈ fl)
theorem drawOk_spec {ins : List AIns} {fl : List (Nat × Nat)} (h : drawOk ops ins fl = true) {i j : Nat} (hij : i < j) (hj : j < ops.length) : Pair ops ins fl i j := by
  simp only [drawOk, List.all_eq_true, List.mem_range] at h
  have h := h j hj i hij
  simp only [pairOk, Bool.or_eq_true] at h
  refine ⟨h.imp (fun h => by simpa using h) fun h => ?_⟩
  split at h
  · rename_i x y a b h1 h2 h3 h4
    simp only [Bool.and_eq_true, Bool.or_eq_true, Bool.not_eq_true', Bool.and_eq_false_iff] at h
    obtain ⟨⟨⟨⟨s1, s2⟩, s3⟩, s4⟩, s5⟩ := h
    refine ⟨x, y, a, b, h1, h2, h3, h4, s1, s2, fun ⟨e1, e2⟩ => ?_, fun e1 e2 => ?_, fun e1 e2 => ?_⟩
    · rcases s3 with s | s <;> simp_all
    · rcases s4 with (s | s) | s
      · simp_all
      · simp_all
      · simpa using s
    · rcases s5 with (s | s) | s
      · simp_all
      · simp_all
      · simpa using s
  · cases h

theorem sep_spec {x y : Oper} (h : sep ops x y = true) {d : Nat} (hd : x.dst = some d) : d ∉ looksAt ops y ∧ y.dst ≠ some d := by
  simp only [sep, hd, Bool.and_eq_true, Bool.not_eq_true', bne_iff_ne, ne_eq] at h
  exact ⟨by simpa using h.1, h.2⟩
theorem looks_op {o : Oper} {t : Nat} (h : .tmp t ∈ o.op.operands) : t ∈ looksAt ops o :=
  List.mem_append_left _ (List.mem_filterMap.2 ⟨.tmp t, by simpa using h, rfl⟩)
theorem looks_guard {o og : Oper} {q d : Nat} {b : Bool} (h : o.guard = some (q, b)) (hq : ops[q]? = some og) (hd : og.dst = some d) : d ∈ looksAt ops o :=
  List.mem_append_right _ (by simp [h, hq, hd])
end

section
variable {P : Program} {w0 : World} {gl al : List Nat} {N : Nat} {ops : List Oper} {g : Frame} {S : Store} {st : Nat → St} {cf : CallF} {fl : List (Nat × Nat)}

/-- operation j is about to be done, k tells which store is met -/
structure Meets (P : Program) (gl al : List Nat) (ops : List Oper) (Lst : Nat → Prop) (k : Nat) : Prop where
  le : k ≤ ops.length
  old : ∀ i ins, i < k → (compOps P gl al [] ops)[i]? = some ins → isEvent ins.op = true → Lst i
  new : ∀ i ins, k ≤ i → (compOps P gl al [] ops)[i]? = some ins → isEvent ins.op = true → ¬ Lst i

variable {Lst : Nat → Prop} (hT : Tr cf g S (compOps P gl al [] ops) st) (hk : Okay N ops) (hd : drawOk ops (compOps P gl al [] ops) fl = true) (hcl : ∀ j o, Lst j → ops[j]? = some o → ∀ d ∈ deps o, Lst d)
include hT hk hd hcl

theorem first_event (a b : Nat) (hab : a ≤ b) (hb : b ≤ ops.length) : (st b).S = (st a).S ∨ ∃ e ins, a ≤ e ∧ e < b ∧ (compOps P gl al [] ops)[e]? = some ins ∧ isEvent ins.op = true ∧ (st e).S = (st a).S := by
  have hlen := compOps_len P gl al ops []
  induction b with
  | zero => have : a = 0 := by omega
            subst this; exact .inl rfl
  | succ b ih =>
    by_cases e : a = b + 1
    · subst e; exact .inl rfl
    · rcases ih (by omega) (by omega) with h | ⟨q, ins, h1, h2, h3, h4, h5⟩
      · obtain ⟨ins, hi, _⟩ := hT.stp (k := b) (by rw [hlen]; omega)
        cases hev : isEvent ins.op with
        | true => exact .inr ⟨b, ins, by omega, by omega, hi, hev, h⟩
        | false =>
          have := hT.same (a := b) (b := b + 1) (by omega) (by rw [hlen]; omega) fun j i h1 h2 hj => by
            have : j = b := by omega
            subst this; rw [hi] at hj; cases hj; exact hev
          exact .inl (this.trans h)
      · exact .inr ⟨q, ins, h1, by omega, h3, h4, h5⟩
theorem last_event (a b : Nat) (hab : a ≤ b) (hb : b ≤ ops.length) : (st b).S = (st a).S ∨ ∃ e ins, a ≤ e ∧ e < b ∧ (compOps P gl al [] ops)[e]? = some ins ∧ isEvent ins.op = true ∧ (st b).S = (st (e + 1)).S := by
  have hlen := compOps_len P gl al ops []
  induction b with
  | zero => have : a = 0 := by omega
            subst this; exact .inl rfl
  | succ b ih =>
    by_cases e : a = b + 1
    · subst e; exact .inl rfl
    · obtain ⟨ins, hi, _⟩ := hT.stp (k := b) (by rw [hlen]; omega)
      cases hev : isEvent ins.op with
      | true => exact .inr ⟨b, ins, by omega, by omega, hi, hev, rfl⟩
      | false =>
        have := hT.same (a := b) (b := b + 1) (by omega) (by rw [hlen]; omega) fun j i h1 h2 hj => by
          have : j = b := by omega
          subst this; rw [hi] at hj; cases hj; exact hev
        rcases ih (by omega) (by omega) with h | ⟨q, ins', h1, h2, h3, h4, h5⟩
        · exact .inl (this.trans h)
        · exact .inr ⟨q, ins', h1, by omega, h3, h4, this.trans h5⟩

variable {j : Nat} {o : Oper} (hj : ops[j]? = some o) (hn : ¬ Lst j) (hready : ∀ d ∈ deps o, Lst d)
include hj hn hready

theorem before_ok {i : Nat} {x : Oper} (hij : i < j) (hx : ops[i]? = some x) {t : Nat} (hdst : x.dst = some t) (hl : t ∈ looksAt ops o) : Lst i := by
  rcases (drawOk_spec hd hij (List.getElem?_eq_some_iff.1 hj).1).it with h | ⟨x', y', a, b, h1, h2, h3, h4, s1, s2, _⟩
  · exact anc_done hcl j o hj hready i h
  · rw [hx] at h1; cases h1; rw [hj] at h2; cases h2
    exact absurd hl (sep_spec s1 hdst).1
theorem after_ok {i : Nat} {x : Oper} (hij : j ≤ i) (hx : ops[i]? = some x) {t : Nat} (hdst : x.dst = some t) (hl : t ∈ looksAt ops o) : ¬ Lst i := by
  by_cases e : i = j
  · subst e; exact hn
  · intro hLi
    rcases (drawOk_spec hd (show j < i by omega) (List.getElem?_eq_some_iff.1 hx).1).it with h | ⟨x', y', a, b, h1, h2, h3, h4, s1, s2, _⟩
    · exact hn (anc_done hcl i x hx (hcl i x hLi hx) j h)
    · rw [hj] at h1; cases h1; rw [hx] at h2; cases h2
      exact absurd hl (sep_spec s2 hdst).1

/-- an event meets the store that it meets in the text's order -/
theorem event_store {k : Nat} (hm : Meets P gl al ops Lst k) {ins : AIns} (hins : (compOps P gl al [] ops)[j]? = some ins) (hev : isEvent ins.op = true) : k ≤ j ∧ (st j).S = (st k).S := by
  have hjl := (List.getElem?_eq_some_iff.1 hj).1
  have hlen := compOps_len P gl al ops []
  have hkj : k ≤ j := by
    rcases Nat.lt_or_ge j k with h | h
    · exact absurd (hm.old j ins h hins hev) hn
    · exact h
  refine ⟨hkj, hT.same hkj (by rw [hlen]; omega) fun i a h1 h2 ha => ?_⟩
  cases hea : isEvent a.op with
  | false => rfl
  | true =>
    exfalso
    rcases (drawOk_spec hd h2 hjl).it with h | ⟨x', y', a', b', h1', h2', h3, h4, s1, s2, s3, _⟩
    · exact hm.new i a h1 ha hea (anc_done hcl j o hj hready i h)
    · rw [ha] at h3; cases h3; rw [hins] at h4; cases h4
      exact s3 ⟨hea, hev⟩

/-- what is no event gives the same value in the store that it meets -/
theorem float_store (hf : floats cf g S (compOps P gl al [] ops) fl = true) {k : Nat} (hm : Meets P gl al ops Lst k) {ins : AIns} (hins : (compOps P gl al [] ops)[j]? = some ins) (hev : isEvent ins.op = false) {v : AV}
    (hw : wantA ins (st j).L = some true) (hv : (st (j + 1)).L = (st j).L ++ [v]) (ha : aop cf (st j).S (ev (st j).g (st j).L) ins.op = some (v, (st (j + 1)).S)) :
    aop cf (st k).S (ev (st j).g (st j).L) ins.op = some (v, (st k).S) := by
  have hjl := (List.getElem?_eq_some_iff.1 hj).1
  have hlen := compOps_len P gl al ops []
  have hSj := aop_keeps hev ha
  rw [hSj] at ha
  cases hrd : isRead ins.op with
  | false => exact aop_pure hev hrd ha _
  | true =>
    have fin : ∀ e a, e ≠ j → (compOps P gl al [] ops)[e]? = some a → (j, e) ∈ fl → (st k).S = (st (if j < e then e + 1 else e)).S → aop cf (st k).S (ev (st j).g (st j).L) ins.op = some (v, (st k).S) := fun e a hne hea hmem hS => by
      have hel : e < ops.length := by rw [← hlen]; exact (List.getElem?_eq_some_iff.1 hea).1
      obtain ⟨T', hT'⟩ := floats_mem hT hf hmem (by rw [hlen]; exact hjl) (by rw [hlen]; exact hel) hins hw hv
      rw [hS]
      have := aop_keeps hev hT'
      rw [this] at hT'; exact hT'
    rcases Nat.le_total k j with hkj | hjk
    · rcases first_event hT hk hd hcl k j hkj (by omega) with h | ⟨e, a, h1, h2, h3, h4, h5⟩
      · rw [← h]; exact ha
      · rcases (drawOk_spec hd h2 hjl).it with h | ⟨x', y', a', b', h1', h2', h3', h4', s1, s2, s3, s4, s5⟩
        · exact absurd (anc_done hcl j o hj hready e h) (hm.new e a h1 h3 h4)
        · rw [h3] at h3'; cases h3'; rw [hins] at h4'; cases h4'
          exact fin e a (by omega) h3 (s5 h4 hrd) (by rw [if_neg (by omega)]; exact h5.symm)
    · rcases last_event hT hk hd hcl j k hjk hm.le with h | ⟨e, a, h1, h2, h3, h4, h5⟩
      · rw [h]; exact ha
      · have hej : e ≠ j := fun q => by subst q; rw [hins] at h3; cases h3; rw [hev] at h4; cases h4
        have hel : e < ops.length := by rw [← hlen]; exact (List.getElem?_eq_some_iff.1 h3).1
        have hoe := List.getElem?_eq_getElem hel
        rcases (drawOk_spec hd (show j < e by omega) hel).it with h | ⟨x', y', a', b', h1', h2', h3', h4', s1, s2, s3, s4, s5⟩
        · exact absurd (anc_done hcl e _ hoe (hcl e _ (hm.old e a h2 h3 h4) hoe) j h) hn
        · rw [hins] at h3'; cases h3'; rw [h3] at h4'; cases h4'
          exact fin e a hej h3 (s4 hrd h4) (by rw [if_pos (by omega)]; exact h5)
end

end Go.Proofs.Ytmijfhepagobdaa.Avm
