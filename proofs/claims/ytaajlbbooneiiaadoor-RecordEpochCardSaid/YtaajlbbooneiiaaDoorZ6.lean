/- A region whose order is drawn. A region whose order is drawn: every order. Code, results, functions: what the abstract machine runs, the machine runs. What a call made is told anew: kept objects under new names, the others for good. What a call reads of its arguments; calls that answer with scalars; calls that answer with what stays as it is. -/
import Derived.Test.YtaajlbbooneiiaaDoorZ5
import Derived.Test.YtaajlbbooneiiaaDoorZ1
set_option linter.unusedVariables false
set_option linter.unusedSimpArgs false
set_option linter.unusedSectionVars false
namespace Go.Proofs.YtaajlbbooneiiaaDoor.Avm
open Go.RowKit

def deps (o : Oper) : List Nat := (o.after.toList.filter (Region.binds .any)).map (·.on)

theorem ancs_spec : ∀ (ops : List Oper) (acc : List (List Nat)), (∀ i, i < acc.length → (ancs acc ops)[i]? = acc[i]?) ∧
    ∀ j o, ops[j]? = some o → ∀ i, i ∈ (ancs acc ops).getD (acc.length + j) [] → i ∈ deps o ∨ ∃ d, d ∈ deps o ∧ d < acc.length + j ∧ i ∈ (ancs acc ops).getD d []
  | [], acc => ⟨fun i _ => rfl, fun j o h => by simp at h⟩
  | o' :: ops, acc => by
    have ih := ancs_spec ops (acc ++ [deps o' ++ (deps o').flatMap fun d => acc.getD d []])
    have e : ancs acc (o' :: ops) = ancs (acc ++ [deps o' ++ (deps o').flatMap fun d => acc.getD d []]) ops := rfl
    rw [e]
    obtain ⟨h1, h2⟩ := ih
    have hpre : ∀ i, i < acc.length → (ancs (acc ++ [deps o' ++ (deps o').flatMap fun d => acc.getD d []]) ops)[i]? = acc[i]? := fun i hi => by
      rw [h1 i (by simp; omega), List.getElem?_append_left hi]
    refine ⟨hpre, fun j o hj i hi => ?_⟩
    cases j with
    | zero =>
      simp at hj; subst hj
      rw [Nat.add_zero, List.getD_eq_getElem?_getD, h1 acc.length (by simp)] at hi
      rw [List.getElem?_append_right (Nat.le_refl _)] at hi
      simp only [Nat.sub_self, List.getElem?_cons_zero, Option.getD_some, List.mem_append, List.mem_flatMap] at hi
      rcases hi with hi | ⟨d, hd, hi⟩
      · exact .inl hi
      · have hlt : d < acc.length := by
          rcases Nat.lt_or_ge d acc.length with h | h
          · exact h
          · rw [List.getD_eq_getElem?_getD, List.getElem?_eq_none h] at hi; simp at hi
        exact .inr ⟨d, hd, by omega, by rw [List.getD_eq_getElem?_getD, hpre d hlt, ← List.getD_eq_getElem?_getD]; exact hi⟩
    | succ j =>
      have := h2 j o (by simpa using hj) i (by simpa [Nat.add_assoc, Nat.add_comm 1] using hi)
      rcases this with h | ⟨d, a, b, c⟩
      · exact .inl h
      · exact .inr ⟨d, a, by simp at b; omega, c⟩

section
variable {ops : List Oper} {Lst : Nat → Prop}
/-- what a done operation waited for is done -/
theorem anc_done (hcl : ∀ j o, Lst j → ops[j]? = some o → ∀ d ∈ deps o, Lst d) : ∀ (j : Nat) (o : Oper), ops[j]? = some o → (∀ d ∈ deps o, Lst d) → ∀ i, i ∈ (ancs [] ops).getD j [] → Lst i := by
  intro j
  induction j using Nat.strongRecOn with
  | ind j ih =>
    intro o ho hd i hi
    rcases (ancs_spec ops []).2 j o ho i (by simpa using hi) with h | ⟨d, h1, h2, h3⟩
    · exact hd i h
    · have hdl : d < ops.length := by have := (List.getElem?_eq_some_iff.1 ho).1; simp at h2; omega
      have hod := List.getElem?_eq_getElem hdl
      exact ih d (by simpa using h2) _ hod (hcl d _ (hd d h1) hod) i h3

structure Pair (ops : List Oper) (ins : List AIns) (fl : List (Nat × Nat)) (i j : Nat) : Prop where
  it : i ∈ (ancs [] ops).getD j [] ∨ ∃ (x y : Oper) (a b : AIns), ops[i]? = some x ∧ ops[j]? = some y ∧ ins[i]? = some a ∧ ins[j]? = some b ∧ sep ops x y = true ∧ sep ops y x = true ∧ ¬ (isEvent a.op = true ∧ isEvent b.op = true) ∧
    (isRead a.op = true → isEvent b.op = true → (i, j) ∈ fl) ∧ (isEvent a.op = true → isRead b.op = true → (j, i) ∈ fl)
theorem drawOk_spec {ins : List AIns} {fl : List (Nat × Nat)} (h : drawOk ops ins fl = true) {i j : Nat} (hij : i < j) (hj : j < ops.length) : Pair ops ins fl i j := by
  simp only [drawOk, List.all_eq_true, List.mem_range] at h
  have h := h j hj i hij
  simp only [pairOk, Bool.or_eq_true] at h
  refine ⟨h.imp (fun h => by simpa using h) fun h => ?_⟩
  split at h
  · rename_i x y a b h1 h2 h3 h4
    simp only [Bool.and_eq_true, Bool.or_eq_true, Bool.not_eq_true', Bool.and_eq_false_iff] at h
    obtain ⟨⟨⟨⟨s1, s2⟩, s3⟩, s4⟩, s5⟩ := h
    refine ⟨x, y, a, b, h1, h2, h3, h4, s1, s2, fun ⟨e1, e2⟩ => ?_, fun e1 e2 => ?_, fun e1 e2 => ?_⟩
    · rcases s3 with s | s <;> simp_all
    · rcases s4 with (s | s) | s
      · simp_all
      · simp_all
      · simpa using s
    · rcases s5 with (s | s) | s
      · simp_all
      · simp_all
      · simpa using s
  · cases h

theorem sep_spec {x y : Oper} (h : sep ops x y = true) {d : Nat} (hd : x.dst = some d) : d ∉ looksAt ops y ∧ y.dst ≠ some d := by
  simp only [sep, hd, Bool.and_eq_true, Bool.not_eq_true', bne_iff_ne, ne_eq] at h
  exact ⟨by simpa using h.1, h.2⟩
theorem looks_op {o : Oper} {t : Nat} (h : .tmp t ∈ o.op.operands) : t ∈ looksAt ops o :=
  List.mem_append_left _ (List.mem_filterMap.2 ⟨.tmp t, by simpa using h, rfl⟩)
theorem looks_guard {o og : Oper} {q d : Nat} {b : Bool} (h : o.guard = some (q, b)) (hq : ops[q]? = some og) (hd : og.dst = some d) : d ∈ looksAt ops o :=
  List.mem_append_right _ (by simp [h, hq, hd])
end

section
variable {P : Program} {w0 : World} {gl al : List Nat} {N : Nat} {ops : List Oper} {g : Frame} {S : Store} {st : Nat → St} {cf : CallF} {fl : List (Nat × Nat)}

/-- operation j is about to be done, k tells which store is met -/
structure Meets (P : Program) (gl al : List Nat) (ops : List Oper) (Lst : Nat → Prop) (k : Nat) : Prop where
  le : k ≤ ops.length
  old : ∀ i ins, i < k → (compOps P gl al [] ops)[i]? = some ins → isEvent ins.op = true → Lst i
  new : ∀ i ins, k ≤ i → (compOps P gl al [] ops)[i]? = some ins → isEvent ins.op = true → ¬ Lst i

variable {Lst : Nat → Prop} (hT : Tr cf g S (compOps P gl al [] ops) st) (hk : Okay N ops) (hd : drawOk ops (compOps P gl al [] ops) fl = true) (hcl : ∀ j o, Lst j → ops[j]? = some o → ∀ d ∈ deps o, Lst d)
include hT hk hd hcl

theorem first_event (a b : Nat) (hab : a ≤ b) (hb : b ≤ ops.length) : (st b).S = (st a).S ∨ ∃ e ins, a ≤ e ∧ e < b ∧ (compOps P gl al [] ops)[e]? = some ins ∧ isEvent ins.op = true ∧ (st e).S = (st a).S := by
  have hlen := compOps_len P gl al ops []
  induction b with
  | zero => have : a = 0 := by omega
            subst this; exact .inl rfl
  | succ b ih =>
    by_cases e : a = b + 1
    · subst e; exact .inl rfl
    · rcases ih (by omega) (by omega) with h | ⟨q, ins, h1, h2, h3, h4, h5⟩
      · obtain ⟨ins, hi, _⟩ := hT.stp (k := b) (by rw [hlen]; omega)
        cases hev : isEvent ins.op with
        | true => exact .inr ⟨b, ins, by omega, by omega, hi, hev, h⟩
        | false =>
          have := hT.same (a := b) (b := b + 1) (by omega) (by rw [hlen]; omega) fun j i h1 h2 hj => by
            have : j = b := by omega
            subst this; rw [hi] at hj; cases hj; exact hev
          exact .inl (this.trans h)
      · exact .inr ⟨q, ins, h1, by omega, h3, h4, h5⟩
theorem last_event (a b : Nat) (hab : a ≤ b) (hb : b ≤ ops.length) : (st b).S = (st a).S ∨ ∃ e ins, a ≤ e ∧ e < b ∧ (compOps P gl al [] ops)[e]? = some ins ∧ isEvent ins.op = true ∧ (st b).S = (st (e + 1)).S := by
  have hlen := compOps_len P gl al ops []
  induction b with
  | zero => have : a = 0 := by omega
            subst this; exact .inl rfl
  | succ b ih =>
    by_cases e : a = b + 1
    · subst e; exact .inl rfl
    · obtain ⟨ins, hi, _⟩ := hT.stp (k := b) (by rw [hlen]; omega)
      cases hev : isEvent ins.op with
      | true => exact .inr ⟨b, ins, by omega, by omega, hi, hev, rfl⟩
      | false =>
        have := hT.same (a := b) (b := b + 1) (by omega) (by rw [hlen]; omega) fun j i h1 h2 hj => by
          have : j = b := by omega
          subst this; rw [hi] at hj; cases hj; exact hev
        rcases ih (by omega) (by omega) with h | ⟨q, ins', h1, h2, h3, h4, h5⟩
        · exact .inl (this.trans h)
        · exact .inr ⟨q, ins', h1, by omega, h3, h4, this.trans h5⟩

variable {j : Nat} {o : Oper} (hj : ops[j]? = some o) (hn : ¬ Lst j) (hready : ∀ d ∈ deps o, Lst d)
include hj hn hready

theorem before_ok {i : Nat} {x : Oper} (hij : i < j) (hx : ops[i]? = some x) {t : Nat} (hdst : x.dst = some t) (hl : t ∈ looksAt ops o) : Lst i := by
  rcases (drawOk_spec hd hij (List.getElem?_eq_some_iff.1 hj).1).it with h | ⟨x', y', a, b, h1, h2, h3, h4, s1, s2, _⟩
  · exact anc_done hcl j o hj hready i h
  · rw [hx] at h1; cases h1; rw [hj] at h2; cases h2
    exact absurd hl (sep_spec s1 hdst).1
theorem after_ok {i : Nat} {x : Oper} (hij : j ≤ i) (hx : ops[i]? = some x) {t : Nat} (hdst : x.dst = some t) (hl : t ∈ looksAt ops o) : ¬ Lst i := by
  by_cases e : i = j
  · subst e; exact hn
  · intro hLi
    rcases (drawOk_spec hd (show j < i by omega) (List.getElem?_eq_some_iff.1 hx).1).it with h | ⟨x', y', a, b, h1, h2, h3, h4, s1, s2, _⟩
    · exact hn (anc_done hcl i x hx (hcl i x hLi hx) j h)
    · rw [hj] at h1; cases h1; rw [hx] at h2; cases h2
      exact absurd hl (sep_spec s2 hdst).1

/-- an event meets the store that it meets in the text's order -/
theorem event_store {k : Nat} (hm : Meets P gl al ops Lst k) {ins : AIns} (hins : (compOps P gl al [] ops)[j]? = some ins) (hev : isEvent ins.op = true) : k ≤ j ∧ (st j).S = (st k).S := by
  have hjl := (List.getElem?_eq_some_iff.1 hj).1
  have hlen := compOps_len P gl al ops []
  have hkj : k ≤ j := by
    rcases Nat.lt_or_ge j k with h | h
    · exact absurd (hm.old j ins h hins hev) hn
    · exact h
  refine ⟨hkj, hT.same hkj (by rw [hlen]; omega) fun i a h1 h2 ha => ?_⟩
  cases hea : isEvent a.op with
  | false => rfl
  | true =>
    exfalso
    rcases (drawOk_spec hd h2 hjl).it with h | ⟨x', y', a', b', h1', h2', h3, h4, s1, s2, s3, _⟩
    · exact hm.new i a h1 ha hea (anc_done hcl j o hj hready i h)
    · rw [ha] at h3; cases h3; rw [hins] at h4; cases h4
      exact s3 ⟨hea, hev⟩

/-- what is no event gives the same value in the store that it meets -/
theorem float_store (hf : floats cf g S (compOps P gl al [] ops) fl = true) {k : Nat} (hm : Meets P gl al ops Lst k) {ins : AIns} (hins : (compOps P gl al [] ops)[j]? = some ins) (hev : isEvent ins.op = false) {v : AV}
    (hw : wantA ins (st j).L = some true) (hv : (st (j + 1)).L = (st j).L ++ [v]) (ha : aop cf (st j).S (ev (st j).g (st j).L) ins.op = some (v, (st (j + 1)).S)) :
    aop cf (st k).S (ev (st j).g (st j).L) ins.op = some (v, (st k).S) := by
  have hjl := (List.getElem?_eq_some_iff.1 hj).1
  have hlen := compOps_len P gl al ops []
  have hSj := aop_keeps hev ha
  rw [hSj] at ha
  cases hrd : isRead ins.op with
  | false => exact aop_pure hev hrd ha _
  | true =>
    have fin : ∀ e a, e ≠ j → (compOps P gl al [] ops)[e]? = some a → (j, e) ∈ fl → (st k).S = (st (if j < e then e + 1 else e)).S → aop cf (st k).S (ev (st j).g (st j).L) ins.op = some (v, (st k).S) := fun e a hne hea hmem hS => by
      have hel : e < ops.length := by rw [← hlen]; exact (List.getElem?_eq_some_iff.1 hea).1
      obtain ⟨T', hT'⟩ := floats_mem hT hf hmem (by rw [hlen]; exact hjl) (by rw [hlen]; exact hel) hins hw hv
      rw [hS]
      have := aop_keeps hev hT'
      rw [this] at hT'; exact hT'
    rcases Nat.le_total k j with hkj | hjk
    · rcases first_event hT hk hd hcl k j hkj (by omega) with h | ⟨e, a, h1, h2, h3, h4, h5⟩
      · rw [← h]; exact ha
      · rcases (drawOk_spec hd h2 hjl).it with h | ⟨x', y', a', b', h1', h2', h3', h4', s1, s2, s3, s4, s5⟩
        · exact absurd (anc_done hcl j o hj hready e h) (hm.new e a h1 h3 h4)
        · rw [h3] at h3'; cases h3'; rw [hins] at h4'; cases h4'
          exact fin e a (by omega) h3 (s5 h4 hrd) (by rw [if_neg (by omega)]; exact h5.symm)
    · rcases last_event hT hk hd hcl j k hjk hm.le with h | ⟨e, a, h1, h2, h3, h4, h5⟩
      · rw [h]; exact ha
      · have hej : e ≠ j := fun q => by subst q; rw [hins] at h3; cases h3; rw [hev] at h4; cases h4
        have hel : e < ops.length := by rw [← hlen]; exact (List.getElem?_eq_some_iff.1 h3).1
        have hoe := List.getElem?_eq_getElem hel
        rcases (drawOk_spec hd (show j < e by omega) hel).it with h | ⟨x', y', a', b', h1', h2', h3', h4', s1, s2, s3, s4, s5⟩
        · exact absurd (anc_done hcl e _ hoe (hcl e _ (hm.old e a h2 h3 h4) hoe) j h) hn
        · rw [hins] at h3'; cases h3'; rw [h3] at h4'; cases h4'
          exact fin e a hej h3 (s4 hrd h4) (by rw [if_pos (by omega)]; exact h5)
end

end Go.Proofs.YtaajlbbooneiiaaDoor.Avm
set_option linter.unusedVariables false
set_option linter.unusedSimpArgs false
set_option linter.unusedSectionVars false
namespace Go.Proofs.YtaajlbbooneiiaaDoor.Avm
open Go.RowKit

def cnt (l : Array Bool) : Nat := l.toList.countP (!·)
theorem cnt_set {l : Array Bool} {i : Nat} (hi : i < l.size) (h : l.getD i true = false) : cnt l = cnt (l.setIfInBounds i true) + 1 := by
  unfold cnt
  rw [Array.toList_setIfInBounds]
  have hil : i < l.toList.length := by simpa using hi
  have hget : l.toList[i] = false := by
    rw [Array.getD_eq_getD_getElem?, Array.getElem?_eq_getElem hi] at h
    simpa using h
  have h1 : l.toList = l.toList.take i ++ l.toList[i] :: l.toList.drop (i + 1) := by
    rw [← List.drop_eq_getElem_cons hil, List.take_append_drop]
  have h2 : l.toList.set i true = l.toList.take i ++ true :: l.toList.drop (i + 1) := by
    rw [List.set_eq_take_append_cons_drop, if_pos hil]
  rw [h2]
  conv => lhs; rw [h1]
  simp [List.countP_append, List.countP_cons, hget]
  omega
theorem cnt_zero {l : Array Bool} (h : cnt l = 0) {i : Nat} (hi : i < l.size) : l.getD i false = true := by
  unfold cnt at h
  rw [List.countP_eq_zero] at h
  have := h l[i] (by simp)
  simpa [Array.getElem?_eq_getElem hi] using this
theorem set_iff {l : Array Bool} {i j : Nat} (hi : i < l.size) : (l.setIfInBounds i true).getD j false = true ↔ l.getD j false = true ∨ j = i := by
  by_cases h : i = j
  · subst h; simp [hi]
  · simp [Array.getElem?_setIfInBounds_ne h]; exact fun e => absurd e.symm h

theorem rep_false {n i : Nat} : (Array.replicate n false).getD i false = true → False := by
  rw [Array.getD_eq_getD_getElem?, Array.getElem?_replicate]
  split <;> simp

section
variable {P : Program} {w0 : World} {gl al : List Nat} {N : Nat} {ops : List Oper} {g : Frame} {S : Store} {st : Nat → St} {cf : CallF} {fl : List (Nat × Nat)} {φ0 : Pc} {Q : Exit → Act → World → Prop}

theorem region_any (hcf : CallOK P w0 cf) (hT : Tr cf g S (compOps P gl al [] ops) st) (hk : Okay N ops) (hd : drawOk ops (compOps P gl al [] ops) fl = true) (hf : floats cf g S (compOps P gl al [] ops) fl = true)
    (hQ : ∀ φ' a' w', Ext φ0 φ' → Rel w0 φ' (st ops.length).S w' → FRel w0 φ' gl N (st ops.length).g a' → Q .normal a' w') :
    ∀ (fuel : Nat) (listed : Array Bool) (φ : Pc) (a : Act) (w : World) (k : Nat), cnt listed = fuel → listed.size = ops.length → Ext φ0 φ →
      (∀ j o, listed.getD j false = true → ops[j]? = some o → ∀ d ∈ deps o, listed.getD d false = true) → Meets P gl al ops (fun i => listed.getD i false = true) k →
      RInv w0 gl N ops g st (fun i => listed.getD i false = true) φ a → Rel w0 φ (st k).S w → wpAny P .any ops.toArray Q fuel listed a w := by
  have hlen := compOps_len P gl al ops []
  -- at the end
  have fin : ∀ (listed : Array Bool) (φ : Pc) (a : Act) (w : World) (k : Nat), (∀ i, i < ops.length → listed.getD i false = true) → Ext φ0 φ → Meets P gl al ops (fun i => listed.getD i false = true) k →
      RInv w0 gl N ops g st (fun i => listed.getD i false = true) φ a → Rel w0 φ (st k).S w → Q .normal a w := fun listed φ a w k hall hx hm hi hr => by
    refine hQ φ a w hx ?_ (hi.done hT hk hall)
    have := hT.same (a := k) (b := ops.length) hm.le (by rw [hlen]; omega) fun j i h1 h2 hj => by
      cases hev : isEvent i.op with
      | false => rfl
      | true => exact absurd (hall j h2) (hm.new j i h1 hj hev)
    rw [this]; exact hr
  intro fuel
  induction fuel with
  | zero =>
    intro listed φ a w k hc hs hx hcl hm hi hr
    have hall : ∀ i, i < ops.length → listed.getD i false = true := fun i hi => cnt_zero hc (by omega)
    refine ⟨?_, fin listed φ a w k hall hx hm hi hr⟩
    refine List.eq_nil_iff_forall_not_mem.2 fun j hj => ?_
    obtain ⟨h1, o, ho, _⟩ := mem_ready.1 hj
    have hjl : j < ops.length := (List.getElem?_eq_some_iff.1 (by simpa using ho)).1
    have h2 := hall j hjl
    rw [Array.getD_eq_getD_getElem?, Array.getElem?_eq_getElem (show j < listed.size by omega)] at h1 h2
    simp at h1 h2; rw [h1] at h2; cases h2
  | succ fuel ih =>
    intro listed φ a w k hc hs hx hcl hm hi hr
    refine ⟨fun hnil => ?_, fun j hj => ?_⟩
    · have hall : ∀ i, i < ops.length → listed.getD i false = true := by
        intro i
        induction i using Nat.strongRecOn with
        | ind i ihi =>
          intro hil
          cases hli : listed.getD i false with
          | true => rfl
          | false =>
            exfalso
            have hmem : i ∈ Region.ready .any ops.toArray listed := by
              refine mem_ready.2 ⟨?_, ops[i], by simp [hil], fun e he hb => ihi e.on ?_ ?_⟩
              · rw [Array.getD_eq_getD_getElem?, Array.getElem?_eq_getElem (show i < listed.size by omega)] at hli ⊢
                simpa using hli
              · exact hk.aft i _ (List.getElem?_eq_getElem hil) e he hb
              · have := hk.aft i _ (List.getElem?_eq_getElem hil) e he hb; omega
            rw [hnil] at hmem; cases hmem
      exact fin listed φ a w k hall hx hm hi hr
    · obtain ⟨h1, o, ho, hdeps⟩ := mem_ready.1 hj
      have ho' : ops[j]? = some o := by simpa using ho
      have hjl : j < ops.length := (List.getElem?_eq_some_iff.1 ho').1
      have hready : ∀ d ∈ deps o, listed.getD d false = true := fun d hd' => by
        simp only [deps, List.mem_map, List.mem_filter, Array.mem_toList_iff] at hd'
        obtain ⟨e, ⟨he, hb⟩, rfl⟩ := hd'
        exact hdeps e he hb
      have hn : ¬ listed.getD j false = true := fun h => by
        rw [Array.getD_eq_getD_getElem?, Array.getElem?_eq_getElem (show j < listed.size by omega)] at h1 h
        simp at h1 h; rw [h1] at h; cases h
      have hins := compOps_get P gl al ops [] j o ho'
      rw [List.nil_append] at hins
      have hcl' : ∀ i o', (listed.setIfInBounds j true).getD i false = true → ops[i]? = some o' → ∀ d ∈ deps o', (listed.setIfInBounds j true).getD d false = true := fun i o' hl hoi d hd' => by
        rcases (set_iff (by omega)).1 hl with h | h
        · exact (set_iff (by omega)).2 (.inl (hcl i o' h hoi d hd'))
        · subst h; rw [ho'] at hoi; cases hoi; exact (set_iff (by omega)).2 (.inl (hready d hd'))
      have hfun : (fun i => listed.getD i false = true ∨ i = j) = fun i => (listed.setIfInBounds j true).getD i false = true := funext fun i => propext (set_iff (by omega)).symm
      have hcn : cnt (listed.setIfInBounds j true) = fuel := by have := cnt_set (l := listed) (i := j) (by omega) h1; omega
      have H1 : ∀ (t i : Nat) (o' : Oper), Operand.tmp t ∈ o.op.operands → i < j → ops[i]? = some o' → o'.dst = some t → listed.getD i false = true := fun t i o' hop hij hoi hdst =>
        before_ok hT hk hd hcl ho' hn hready hij hoi hdst (looks_op hop)
      have H2 : ∀ (t i : Nat) (o' : Oper), Operand.tmp t ∈ o.op.operands → j ≤ i → ops[i]? = some o' → o'.dst = some t → ¬ listed.getD i false = true := fun t i o' hop hij hoi hdst =>
        after_ok hT hk hd hcl ho' hn hready hij hoi hdst (looks_op hop)
      have H3 : ∀ q b, o.guard = some (q, b) → listed.getD q false = true := fun q b hg => by
        obtain ⟨hqj, og, dg, hog, hdg⟩ := hk.grd j q b o ho' hg
        exact before_ok hT hk hd hcl ho' hn hready hqj hog hdg (looks_guard hg hog hdg)
      cases hev : isEvent (insOf P gl al ((ops.take j).map (·.dst)) o).op with
      | true =>
        obtain ⟨hkj, hS⟩ := event_store hT hk hd hcl ho' hn hready hm hins hev
        refine step_op (Sc := (st k).S) (Sn := (st (j + 1)).S) hcf hT hk hi hr ho' hn H1 H2 H3 (fun v _ _ h => by rw [← hS]; exact h) (fun _ h => by rw [h, hS]) fun φ' a' w' hx' hr' hi' => ?_
        refine ih _ φ' a' w' (j + 1) hcn (by simp [hs]) (hx.trans hx') hcl' ⟨by omega, fun i ins hij hi2 he => ?_, fun i ins hij hi2 he => ?_⟩ (by rw [← hfun]; exact hi') hr'
        · by_cases e : i = j
          · exact (set_iff (by omega)).2 (.inr e)
          · refine (set_iff (by omega)).2 (.inl ?_)
            rcases Nat.lt_or_ge i k with h | h
            · exact hm.old i ins h hi2 he
            · rcases (drawOk_spec hd (show i < j by omega) hjl).it with h' | ⟨x', y', a1, b1, h1', h2', h3, h4, s1, s2, s3, _⟩
              · exact anc_done hcl j o ho' hready i h'
              · rw [hi2] at h3; cases h3; rw [hins] at h4; cases h4
                exact absurd ⟨he, hev⟩ s3
        · intro hl
          rcases (set_iff (by omega)).1 hl with h | h
          · exact hm.new i ins (by omega) hi2 he h
          · omega
      | false =>
        refine step_op (Sc := (st k).S) (Sn := (st k).S) hcf hT hk hi hr ho' hn H1 H2 H3 (fun v hw hv ha => float_store hT hk hd hcl ho' hn hready hf hm hins hev hw hv ha) (fun _ _ => rfl) fun φ' a' w' hx' hr' hi' => ?_
        refine ih _ φ' a' w' k hcn (by simp [hs]) (hx.trans hx') hcl' ⟨hm.le, fun i ins hij hi2 he => ?_, fun i ins hij hi2 he => ?_⟩ (by rw [← hfun]; exact hi') hr'
        · exact (set_iff (by omega)).2 (.inl (hm.old i ins hij hi2 he))
        · intro hl
          rcases (set_iff (by omega)).1 hl with h | h
          · exact hm.new i ins hij hi2 he h
          · subst h; rw [hins] at hi2; cases hi2; rw [hev] at he; cases he
end

/-- a region -/
theorem region_ok {P : Program} {w0 w : World} {gl : List Nat} {N : Nat} {ops : Array Oper} {draw : Bool} {id : Nat} {g g' : Frame} {S S' : Store} {cf : CallF} {n : Nat} {φ : Pc} {a : Act} {Q : Exit → Act → World → Prop} {ex : AExit}
    (hmix : P.follows .mixedOrders = true) (hcf : CallOK P w0 cf) (h : exec cf n (compRegion P gl N ops.toList draw) g S = some (ex, g', S')) (hr : Rel w0 φ S w) (ha : FRel w0 φ gl N g a)
    (hQ : ex = .normal → ∀ φ' a' w', Ext φ φ' → Rel w0 φ' S' w' → FRel w0 φ' gl N g' a' → Q .normal a' w') : (Code.region id ops draw).wp P Q a w := by
  have hsplit : (opsOk N ops.toList && (!draw || drawOk ops.toList (compOps P gl (goodSlots gl ops.toList) [] ops.toList) (if draw then flOf (ancs [] ops.toList) (compOps P gl (goodSlots gl ops.toList) [] ops.toList) else []))) = true ∧
      exec cf n (.region (compOps P gl (goodSlots gl ops.toList) [] ops.toList) (if draw then flOf (ancs [] ops.toList) (compOps P gl (goodSlots gl ops.toList) [] ops.toList) else [])) g S = some (ex, g', S') := by
    have h' : exec cf n (if (opsOk N ops.toList && (!draw || drawOk ops.toList (compOps P gl (goodSlots gl ops.toList) [] ops.toList) (if draw then flOf (ancs [] ops.toList) (compOps P gl (goodSlots gl ops.toList) [] ops.toList) else []))) = true then
      ACode.region (compOps P gl (goodSlots gl ops.toList) [] ops.toList) (if draw then flOf (ancs [] ops.toList) (compOps P gl (goodSlots gl ops.toList) [] ops.toList) else []) else ACode.fail) g S = some (ex, g', S') := h
    by_cases hok : (opsOk N ops.toList && (!draw || drawOk ops.toList (compOps P gl (goodSlots gl ops.toList) [] ops.toList) (if draw then flOf (ancs [] ops.toList) (compOps P gl (goodSlots gl ops.toList) [] ops.toList) else []))) = true
    · rw [if_pos hok] at h'; exact ⟨hok, h'⟩
    · rw [if_neg hok] at h'; simp [exec] at h'
  obtain ⟨fl, hfl0⟩ : ∃ fl, fl = (if draw then flOf (ancs [] ops.toList) (compOps P gl (goodSlots gl ops.toList) [] ops.toList) else []) := ⟨_, rfl⟩
  rw [← hfl0] at hsplit
  obtain ⟨hok, h⟩ := hsplit

  simp only [Bool.and_eq_true, Bool.or_eq_true, Bool.not_eq_true'] at hok
  have hk := opsOk_spec hok.1
  simp only [exec] at h
  split at h
  · rename_i gF SF LF hrun
    split at h
    · rename_i hfl
      cases h
      obtain ⟨st, q1, q2, q3, q4⟩ := trace _ _ _ _ _ hrun
      have hT : Tr cf g S (compOps P gl (goodSlots gl ops.toList) [] ops.toList) st := ⟨q1, q2, q4⟩
      have hlen := compOps_len P gl (goodSlots gl ops.toList) ops.toList []
      rw [hlen] at q3
      simp only [Prod.mk.injEq] at q3
      obtain ⟨rfl, rfl, _⟩ := q3
      have hst0 : (st 0).S = S := by rw [q1]
      cases draw with
      | false =>
        refine wp_region_list ?_
        have hl := region_list (Q := Q) hcf hT hk (fun φ' a' w' hx hr' hf => hQ rfl φ' a' w' hx hr' hf) ops.toList.length 0 φ a w (by omega) (.refl _)
          (by have : (fun i => i < 0) = fun _ => False := funext fun i => propext ⟨fun h => absurd h (Nat.not_lt_zero _), fun h => h.elim⟩
              rw [this]; exact RInv.start ha) (by rw [hst0]; exact hr)
        rw [List.drop_zero, Array.toArray_toList] at hl
        exact hl
      | true =>
        simp only [Bool.true_eq_false, false_or, if_true] at hok hfl
        refine wp_region_any hmix ?_
        have hl := region_any (Q := Q) (φ0 := φ) hcf hT hk hok.2 hfl (fun φ' a' w' hx hr' hf => hQ rfl φ' a' w' hx hr' hf) ops.size (Array.replicate ops.size false) φ a { w with drawn := w.drawn + 1 } 0
          (by simp [cnt, List.countP_replicate]) (by simp) (.refl _) (fun j o hj => (rep_false hj).elim) ⟨Nat.zero_le _, fun i ins hi => by omega, fun i ins _ _ _ hl => rep_false hl⟩
          (by have : (fun i => (Array.replicate ops.size false).getD i false = true) = fun _ => False := funext fun i => propext ⟨fun h => rep_false h, fun h => h.elim⟩
              rw [this]; exact RInv.start ha) (by rw [hst0]; exact hr.grown ⟨rfl, rfl, rfl, Nat.le_refl _, fun _ _ _ => rfl⟩)
        rw [Array.toArray_toList] at hl
        exact hl
    · cases h
  · cases h

end Go.Proofs.YtaajlbbooneiiaaDoor.Avm
set_option linter.unusedVariables false
set_option linter.unusedSimpArgs false
set_option linter.unusedSectionVars false
namespace Go.Proofs.YtaajlbbooneiiaaDoor.Avm
open Go.RowKit

def exitOf : AExit → Exit
  | .normal => .normal
  | .exit id => .exit id
  | .ret => .ret

section
variable {P : Program} {w0 : World} {gl : List Nat} {N : Nat} {cf : CallF} {n : Nat} (hmix : P.follows .mixedOrders = true) (hcf : CallOK P w0 cf)
include hmix hcf

/-- what a code does -/
def CodeOK (P : Program) (w0 : World) (gl : List Nat) (N : Nat) (cf : CallF) (n : Nat) (c : Code) : Prop :=
  ∀ (Q : Exit → Act → World → Prop) (φ : Pc) (a : Act) (w : World) (g : Frame) (S : Store) (ex : AExit) (g' : Frame) (S' : Store), exec cf n (compCode P gl N c) g S = some (ex, g', S') → Rel w0 φ S w → FRel w0 φ gl N g a →
    (∀ φ' a' w', Ext φ φ' → Rel w0 φ' S' w' → FRel w0 φ' gl N g' a' → Q (exitOf ex) a' w') → c.wp P Q a w

theorem cond_V {φ : Pc} {g : Frame} {a : Act} (ha : FRel w0 φ gl N g a) {x : Operand} {ax : AX} (hx : opd gl [] x = some ax) : V w0 φ (ev g [] ax) (a.eval x) := by
  cases x with
  | tmp t =>
    simp only [opd] at hx
    split at hx
    · rename_i h; cases hx; exact ha.slot t (by simpa using h)
    · simp at hx
  | const v =>
    simp only [opd, Option.map_eq_some_iff] at hx
    obtain ⟨b, hb, rfl⟩ := hx
    exact constAV_V hb
  | func f =>
    simp only [opd, Option.some.injEq] at hx; subst hx
    exact .fn (cvs := []) rfl fun j v cv h => by simp at h
  | global n => simp [opd] at hx

theorem code_ok : ∀ c : Code, CodeOK P w0 gl N cf n c := by
  intro c
  induction c with
  | skip =>
    intro Q φ a w g S ex g' S' h hr ha hQ
    simp only [compCode, exec, Option.some.injEq, Prod.mk.injEq] at h
    obtain ⟨rfl, rfl, rfl⟩ := h
    exact wp_skip (hQ φ a w (.refl _) hr ha)
  | region id ops draw =>
    intro Q φ a w g S ex g' S' h hr ha hQ
    simp only [compCode] at h
    exact region_ok hmix hcf h hr ha fun e => by subst e; exact hQ
  | seq x y ihx ihy =>
    intro Q φ a w g S ex g' S' h hr ha hQ
    simp only [compCode, exec] at h
    refine wp_seq ?_
    split at h
    · rename_i g1 S1 h1
      refine ihx _ φ a w g S .normal g1 S1 h1 hr ha fun φ1 a1 w1 hx1 hr1 ha1 => ?_
      exact ihy Q φ1 a1 w1 g1 S1 ex g' S' h hr1 ha1 fun φ2 a2 w2 hx2 => hQ φ2 a2 w2 (hx1.trans hx2)
    · rename_i r hne
      refine ihx _ φ a w g S ex g' S' h hr ha fun φ1 a1 w1 hx1 hr1 ha1 => ?_
      cases ex with
      | normal => exact absurd h (hne g' S')
      | exit id => exact hQ φ1 a1 w1 hx1 hr1 ha1
      | ret => exact hQ φ1 a1 w1 hx1 hr1 ha1
  | cond c x y ihx ihy =>
    intro Q φ a w g S ex g' S' h hr ha hQ
    simp only [compCode] at h
    cases hc : opd gl [] c with
    | none => rw [hc] at h; simp [exec] at h
    | some ax =>
      rw [hc] at h
      simp only [exec] at h
      have hV := cond_V hmix hcf ha hc
      split at h
      · rename_i he; rw [he] at hV
        exact wp_cond_true hV.bool_inv (ihx Q φ a w g S ex g' S' h hr ha hQ)
      · rename_i he; rw [he] at hV
        exact wp_cond_false hV.bool_inv (ihy Q φ a w g S ex g' S' h hr ha hQ)
      · cases h
  | block id c ih =>
    intro Q φ a w g S ex g' S' h hr ha hQ
    simp only [compCode, exec] at h
    refine wp_block ?_
    split at h
    · rename_i i g1 S1 h1
      split at h
      · rename_i hid
        cases h
        refine ih _ φ a w g S (.exit i) g' S' h1 hr ha fun φ1 a1 w1 hx1 hr1 ha1 => ?_
        simp only [exitOf, Exit.inBlock, hid, if_true]
        exact hQ φ1 a1 w1 hx1 hr1 ha1
      · rename_i hid
        cases h
        refine ih _ φ a w g S (.exit i) g' S' h1 hr ha fun φ1 a1 w1 hx1 hr1 ha1 => ?_
        simp only [exitOf, Exit.inBlock, hid, if_false]
        exact hQ φ1 a1 w1 hx1 hr1 ha1
    · rename_i r hne
      refine ih _ φ a w g S ex g' S' h hr ha fun φ1 a1 w1 hx1 hr1 ha1 => ?_
      cases ex with
      | normal => exact hQ φ1 a1 w1 hx1 hr1 ha1
      | exit id => exact absurd h (hne id g' S')
      | ret => exact hQ φ1 a1 w1 hx1 hr1 ha1
  | loop c ih =>
    intro Q φ a w g S ex g' S' h hr ha hQ
    simp only [compCode, exec] at h
    refine wp_loop_rounds n ?_
    have key : ∀ (m : Nat) (φ1 : Pc) (a1 : Act) (w1 : World) (g1 : Frame) (S1 : Store), loopA (exec cf n (compCode P gl N c)) m g1 S1 = some (ex, g', S') → Ext φ φ1 → Rel w0 φ1 S1 w1 → FRel w0 φ1 gl N g1 a1 → Code.rounds P c Q m a1 w1 := by
      intro m
      induction m with
      | zero => intro φ1 a1 w1 g1 S1 h1; simp [loopA] at h1
      | succ m ihm =>
        intro φ1 a1 w1 g1 S1 h1 hx1 hr1 ha1
        rw [rounds_succ]
        simp only [loopA] at h1
        split at h1
        · rename_i g2 S2 h2
          refine ih _ φ1 a1 w1 g1 S1 .normal g2 S2 h2 hr1 ha1 fun φ2 a2 w2 hx2 hr2 ha2 => ?_
          exact ihm φ2 a2 w2 g2 S2 h1 (hx1.trans hx2) hr2 ha2
        · rename_i r hne
          refine ih _ φ1 a1 w1 g1 S1 ex g' S' h1 hr1 ha1 fun φ2 a2 w2 hx2 hr2 ha2 => ?_
          cases ex with
          | normal => exact absurd h1 (hne g' S')
          | exit id => exact hQ φ2 a2 w2 (hx1.trans hx2) hr2 ha2
          | ret => exact hQ φ2 a2 w2 (hx1.trans hx2) hr2 ha2
    exact key n φ a w g S h (.refl _) hr ha
  | exit id =>
    intro Q φ a w g S ex g' S' h hr ha hQ
    simp only [compCode, exec, Option.some.injEq, Prod.mk.injEq] at h
    obtain ⟨rfl, rfl, rfl⟩ := h
    exact wp_exit (hQ φ a w (.refl _) hr ha)
  | ret =>
    intro Q φ a w g S ex g' S' h hr ha hQ
    simp only [compCode, exec, Option.some.injEq, Prod.mk.injEq] at h
    obtain ⟨rfl, rfl, rfl⟩ := h
    exact wp_ret (hQ φ a w (.refl _) hr ha)
  | _ => intro Q φ a w g S ex g' S' h; simp [compCode, exec] at h
end

/-! ### results -/
theorem res_ok {P : Program} {w0 w : World} {φ : Pc} {S : Store} {gl : List Nat} {N : Nat} {g : Frame} {a : Act} (hr : Rel w0 φ S w) (ha : FRel w0 φ gl N g a) : ∀ (rs : List ResultVar) (ars : List ARes) (vs : List AV),
    compRes P gl rs = some ars → resA g S ars = some vs →
    ∃ cvs : List Value, (rs.mapM fun | ResultVar.tmp t => (pure (a.tmps.getD t undef) : Sem Value) | ResultVar.cell b t => do loadVar t (← asAddr (a.tmps.getD b undef))).run P w = .ok cvs w ∧ Vs w0 φ vs cvs
  | [], ars, vs, h1, h2 => by
    cases h1; cases h2; exact ⟨[], by simp, .nil⟩
  | .tmp t :: rs, ars, vs, h1, h2 => by
    simp only [compRes] at h1
    split at h1
    · rename_i hg
      obtain ⟨ars', h3, rfl⟩ := Option.map_eq_some_iff.1 h1
      simp only [resA, Option.map_eq_some_iff] at h2
      obtain ⟨vs', h4, rfl⟩ := h2
      obtain ⟨cvs, q1, q2⟩ := res_ok hr ha rs ars' vs' h3 h4
      exact ⟨_ :: cvs, by rw [List.mapM_cons]; simp only [Sem.run_bind, Sem.run_pure, Result.andThen_ok, q1], .cons (ha.slot t (by simpa using hg)) q2⟩
    · cases h1
  | .cell b t :: rs, ars, vs, h1, h2 => by
    simp only [compRes] at h1
    split at h1
    · rename_i hg
      simp only [Option.bind_eq_some_iff, Option.map_eq_some_iff] at h1
      obtain ⟨bb, hb, n, hn, ars', h3, rfl⟩ := h1
      simp only [resA, Option.bind_eq_some_iff, Option.map_eq_some_iff] at h2
      obtain ⟨v, hv, vs', h4, rfl⟩ := h2
      obtain ⟨cvs, q1, q2⟩ := res_ok hr ha rs ars' vs' h3 h4
      have hV := ha.slot b (by simpa using hg)
      have hs := run_size (w := w) hn
      have hag := run_agg (w := w) hb
      cases bb with
      | true =>
        obtain ⟨ad, cvs', cs, e, rfl, k1, k2, k3⟩ := loadable_agg hr hV hv
        have := run_loadCells_list (P := P) w ad cvs' k3
        rw [k1] at this
        have had : (asAddr (a.tmps.getD b undef)).run P w = .ok ad w := by rw [e]; simp [asAddr]
        have hlv : (loadVar t ad).run P w = .ok (.agg cvs'.toArray) w := by simp only [loadVar, Sem.run_bind, hag, if_true, hs.1, this, Result.andThen_ok, Sem.run_pure]
        exact ⟨.agg cvs'.toArray :: cvs, by rw [List.mapM_cons]; simp only [Sem.run_bind, had, hlv, Result.andThen_ok, q1, Sem.run_pure], .cons (V.mkAgg k2) q2⟩
      | false =>
        obtain ⟨ad, cv, e, k1, k2⟩ := loadable_one hr hV hv
        have had : (asAddr (a.tmps.getD b undef)).run P w = .ok ad w := by rw [e]; simp [asAddr]
        have hlv : (loadVar t ad).run P w = .ok cv w := by simp [loadVar, hag, k2]
        exact ⟨cv :: cvs, by rw [List.mapM_cons]; simp only [Sem.run_bind, had, hlv, Result.andThen_ok, q1, Sem.run_pure], .cons k1 q2⟩
    · cases h1

theorem one_V {w0 : World} {φ : Pc} {vs : List AV} {cvs : List Value} (h : Vs w0 φ vs cvs) : V w0 φ (oneOrTup vs) (if h : cvs.toArray.size = 1 then cvs.toArray[0] else .tuple cvs.toArray) := by
  have hl := h.1
  match vs, cvs, hl with
  | [], [], _ => exact .tup h.1 h.2
  | [v], [cv], _ => exact h.2 0 v cv rfl rfl
  | v :: v' :: vs, cv :: cv' :: cvs, _ => 
    have : ¬ ((cv :: cv' :: cvs).toArray.size = 1) := by simp
    rw [dif_neg this]; exact .tup h.1 h.2

/-! ### functions -/
/-- an environment is the program's -/
structure EnvOK (P : Program) (w0 : World) (E : Env) : Prop where
  fn : ∀ f fn, E.F f = some fn → ∃ gl pf, P.funcs[f]? = some pf ∧ compF P gl pf = some fn
  prim : ∀ f p, E.prim f = some p → ∀ cf, CallOK P w0 cf → ∀ (args : List AV) (S : Store) (v : AV) (S' : Store), p cf args S = some (v, S') → ∀ (φ : Pc) (w : World) (vs : List Value), Rel w0 φ S w → Vs w0 φ args vs →
    Does P w0 φ S' v ((callFunc f vs.toArray).run P w)

theorem run_ok {P : Program} {w0 : World} {E : Env} (hmix : P.follows .mixedOrders = true) (hE : EnvOK P w0 E) : ∀ n, CallOK P w0 (run E n) := by
  intro n
  induction n with
  | zero => intro f args S v S' h; simp [run] at h
  | succ n ih =>
    intro f args S v S' h φ w vs hr hv
    simp only [run] at h
    split at h
    · rename_i p hp
      exact hE.prim f p hp _ ih args S v S' h φ w vs hr hv
    · split at h
      · rename_i fn hfn
        obtain ⟨gl, pf, hpf, hc⟩ := hE.fn f fn hfn
        unfold compF at hc
        split at hc
        · rename_i c rs hb hrs
          simp only at hc
          split at hc
          · rename_i hok
            cases hc
            simp only [Bool.and_eq_true, decide_eq_true_eq, bne_iff_ne, ne_eq] at hok
            split at h
            · rename_i hal
              split at h
              · cases h
              · rename_i ex g1 S1 hnex hex
                obtain ⟨rvs, hres, hh⟩ := Option.map_eq_some_iff.1 h
                cases hh
                refine .inr ⟨f, vs.toArray, w, by simp [callFunc, hpf, hok.2, hb], ?_⟩
                refine calls_of_wp hpf hb ?_
                have hsz : vs.length = pf.params.size + pf.nfree := by rw [← hv.1]; exact hal
                refine code_ok hmix ih c _ φ _ w (initA args) S ex g1 _ hex hr ⟨?_, rfl, fun t ht => ?_⟩ fun φ' a' w' hx hr' ha' => ?_
                · simp; omega
                · simp only [initA]
                  by_cases htl : t < vs.length
                  · have h1 : (vs.toArray ++ Array.replicate (pf.ntmps - vs.toArray.size) undef).getD t undef = vs[t] := by
                      rw [Array.getD_eq_getD_getElem?, Array.getElem?_append_left (by simpa using htl)]; simp [htl]
                    rw [h1, List.getD_eq_getElem?_getD, List.getElem?_eq_getElem (by rw [hv.1]; exact htl)]
                    exact hv.2 t _ _ (List.getElem?_eq_getElem (by rw [hv.1]; exact htl)) (List.getElem?_eq_getElem htl)
                  · have h1 : (vs.toArray ++ Array.replicate (pf.ntmps - vs.toArray.size) undef).getD t undef = undef := by
                      rw [Array.getD_eq_getD_getElem?, Array.getElem?_append_right (by simpa using htl), Array.getElem?_replicate]
                      split <;> rfl
                    rw [h1, List.getD_eq_getElem?_getD, List.getElem?_eq_none (by rw [hv.1]; omega)]
                    exact .undef
                · obtain ⟨cvs, q1, q2⟩ := res_ok (P := P) hr' ha' _ _ _ hrs hres
                  have hfin : a'.defers = [] ∧ ∃ v, (results pf a'.tmps).run P w' = .ok v w' ∧ Back w0 φ S' (oneOrTup rvs) (.returned v) w' := by
                    refine ⟨ha'.defers, _, ?_, φ', _, rfl, hx, hr', one_V q2⟩
                    unfold results
                    rw [Array.mapM_eq_mapM_toList]
                    simp only [map_eq_pure_bind, bind_assoc, Sem.run_bind, Sem.run_pure, pure_bind]
                    exact congrArg (fun r : Result (List Value) => r.andThen fun a w' => Result.ok (if h : a.toArray.size = 1 then a.toArray[0] else Value.tuple a.toArray) w') q1
                  cases ex with
                  | normal => exact hfin
                  | ret => exact hfin
                  | exit id => exact (hnex id rfl).elim
              · cases h
            · cases h
          · cases hc
        · cases hc
      · cases h

end Go.Proofs.YtaajlbbooneiiaaDoor.Avm
set_option linter.unusedVariables false
set_option linter.unusedSimpArgs false
set_option linter.unusedSectionVars false
namespace Go.Proofs.YtaajlbbooneiiaaDoor.Avm
open Go.RowKit

/-- a value, told anew: ρ says which objects keep a name, and which -/
inductive Cv (S : Store) (ρ : Nat → Option Nat) : AV → AV → Prop
  | int (k : IntKind) (n : Int) : Cv S ρ (.int k n) (.int k n)
  | bool (b : Bool) : Cv S ρ (.bool b) (.bool b)
  | str (s : List UInt8) : Cv S ρ (.str s) (.str s)
  | nilP : Cv S ρ .nilP .nilP
  | ptr {id id' off : Nat} (h : ρ id = some id') : Cv S ρ (.ptr id off) (.ptr id' off)
  | fptr {id off : Nat} {cs ds : List AV} (hρ : ρ id = none) (hS : S[id]? = some (.cells cs)) (ho : off ≤ cs.length) (hl : (cs.drop off).length = ds.length)
      (h : ∀ (j : Nat) (v u : AV), (cs.drop off)[j]? = some v → ds[j]? = some u → Cv S ρ v u) : Cv S ρ (.ptr id off) (.cptr ds)
  | cptr {cs ds : List AV} (hl : cs.length = ds.length) (h : ∀ (j : Nat) (v u : AV), cs[j]? = some v → ds[j]? = some u → Cv S ρ v u) : Cv S ρ (.cptr cs) (.cptr ds)
  | nilS : Cv S ρ .nilS .nilS
  | nilS0 : Cv S ρ .nilS (.csl [] 0)
  | emp : Cv S ρ .emp .emp
  | emp0 : Cv S ρ .emp (.csl [] 0)
  | nsl : Cv S ρ .nsl .nsl
  | nsl0 : Cv S ρ .nsl (.csl [] 0)
  | sl {id id' off n sz : Nat} (h : ρ id = some id') : Cv S ρ (.sl id off n sz) (.sl id' off n sz)
  | fsl {id off n sz : Nat} {cs ds : List AV} (hρ : ρ id = none) (hS : S[id]? = some (.cells cs)) (ho : off + n * sz ≤ cs.length) (hl : ((cs.drop off).take (n * sz)).length = ds.length)
      (h : ∀ (j : Nat) (v u : AV), ((cs.drop off).take (n * sz))[j]? = some v → ds[j]? = some u → Cv S ρ v u) : Cv S ρ (.sl id off n sz) (.csl ds n)
  | slc {id id' off n c sz : Nat} (h : ρ id = some id') : Cv S ρ (.slc id off n c sz) (.slc id' off n c sz)
  | fslc {id off n c sz : Nat} {cs ds : List AV} (hρ : ρ id = none) (hS : S[id]? = some (.cells cs)) (ho : off + n * sz ≤ cs.length) (hl : ((cs.drop off).take (n * sz)).length = ds.length)
      (h : ∀ (j : Nat) (v u : AV), ((cs.drop off).take (n * sz))[j]? = some v → ds[j]? = some u → Cv S ρ v u) : Cv S ρ (.slc id off n c sz) (.csl ds n)
  | csl {cs ds : List AV} {n : Nat} (hl : cs.length = ds.length) (h : ∀ (j : Nat) (v u : AV), cs[j]? = some v → ds[j]? = some u → Cv S ρ v u) : Cv S ρ (.csl cs n) (.csl ds n)
  | csln {cs ds : List AV} {n : Nat} (hl : cs.length = ds.length) (h : ∀ (j : Nat) (v u : AV), cs[j]? = some v → ds[j]? = some u → Cv S ρ v u) : Cv S ρ (.csln cs n) (.csln ds n)
  | cslnF {cs ds : List AV} {n : Nat} (hl : cs.length = ds.length) (h : ∀ (j : Nat) (v u : AV), cs[j]? = some v → ds[j]? = some u → Cv S ρ v u) : Cv S ρ (.csln cs n) (.csl ds n)
  | nilM : Cv S ρ .nilM .nilM
  | map {id id' : Nat} (h : ρ id = some id') : Cv S ρ (.map id) (.map id')
  | nilC : Cv S ρ .nilC .nilC
  | chan {id id' : Nat} (h : ρ id = some id') : Cv S ρ (.chan id) (.chan id')
  | fn {f : Nat} {cs ds : List AV} (hl : cs.length = ds.length) (h : ∀ (j : Nat) (v u : AV), cs[j]? = some v → ds[j]? = some u → Cv S ρ v u) : Cv S ρ (.fn f cs) (.fn f ds)
  | nilF : Cv S ρ .nilF .nilF
  | nilI : Cv S ρ .nilI .nilI
  | agg {cs ds : List AV} (hl : cs.length = ds.length) (h : ∀ (j : Nat) (v u : AV), cs[j]? = some v → ds[j]? = some u → Cv S ρ v u) : Cv S ρ (.agg cs) (.agg ds)
  | tup {cs ds : List AV} (hl : cs.length = ds.length) (h : ∀ (j : Nat) (v u : AV), cs[j]? = some v → ds[j]? = some u → Cv S ρ v u) : Cv S ρ (.tup cs) (.tup ds)
  | junk : Cv S ρ .junk .junk

inductive ObjCv (S : Store) (ρ : Nat → Option Nat) : AObj → AObj → Prop
  | cells {cs ds : List AV} (hl : cs.length = ds.length) (h : ∀ (j : Nat) (v u : AV), cs[j]? = some v → ds[j]? = some u → Cv S ρ v u) : ObjCv S ρ (.cells cs) (.cells ds)
  | map {es fs : List (AV × AV)} (hl : es.length = fs.length) (h : ∀ (j : Nat) (k v k' v' : AV), es[j]? = some (k, v) → fs[j]? = some (k', v') → Cv S ρ k k' ∧ Cv S ρ v v') : ObjCv S ρ (.map es) (.map fs)
  | chan {c : Nat} {cs ds : List AV} (hl : cs.length = ds.length) (h : ∀ (j : Nat) (v u : AV), cs[j]? = some v → ds[j]? = some u → Cv S ρ v u) : ObjCv S ρ (.chan c cs) (.chan c ds)
  | dead (x : AObj) : ObjCv S ρ x .dead

theorem ObjCv.live {S : Store} {ρ : Nat → Option Nat} {x y : AObj} (h : ObjCv S ρ x y) (hl : Avm.live y) : Avm.live x := by
  cases h <;> first | trivial | exact hl.elim

/-- values of a smaller list of places stay as they are -/
theorem V.cvRefl {w0 : World} {φ : Pc} {v : AV} {cv : Value} (h : V w0 φ v cv) {S : Store} {ρ : Nat → Option Nat} (hρ : ∀ i, i < φ.pl.length → ρ i = some i) : Cv S ρ v v := by
  have lt : ∀ {id : Nat} {p : Pl}, φ.pl[id]? = some p → ρ id = some id := fun hp => hρ _ (List.getElem?_eq_some_iff.1 hp).1
  have two : ∀ {cs : List AV} {cvs : List Value}, cs.length = cvs.length → (∀ (j : Nat) (v : AV) (cv : Value), cs[j]? = some v → cvs[j]? = some cv → Cv S ρ v v) → ∀ (j : Nat) (v u : AV), cs[j]? = some v → cs[j]? = some u → Cv S ρ v u := fun {cs cvs} hl ih j v u a b => by
    rw [a] at b; cases b
    have : j < cvs.length := by have := (List.getElem?_eq_some_iff.1 a).1; omega
    exact ih j v _ a (List.getElem?_eq_getElem this)
  induction h with
  | int k n => exact .int k n
  | bool b => exact .bool b
  | str s => exact .str _
  | nilP => exact .nilP
  | ptr hp => exact .ptr (lt hp)
  | cptr hl hc _ ho ih => exact .cptr rfl (two hl ih)
  | nilS => exact .nilS
  | sl hp => exact .sl (lt hp)
  | slc hp => exact .slc (lt hp)
  | csl hl hc _ ho hn ih => exact .csl rfl (two hl ih)
  | csln hl hc _ ho hn hb ha ih => exact .csln rfl (two hl ih)
  | csl0 => exact .csl rfl fun j v u h => by simp at h
  | emp => exact .emp
  | nsl => exact .nsl
  | nilM => exact .nilM
  | map hp => exact .map (lt hp)
  | nilC => exact .nilC
  | chan hp => exact .chan (lt hp)
  | fn hl _ ih => exact .fn rfl (two hl ih)
  | nilF => exact .nilF
  | nilI => exact .nilI
  | agg hl _ ho ih => exact .agg rfl (two hl ih)
  | tup hl _ ih => exact .tup rfl (two hl ih)
  | junk ho => exact .junk

section
variable {w0 w : World} {φ φ' : Pc} {S : Store} {ρ : Nat → Option Nat}

theorem Cv.V (hr : Rel w0 φ S w) (hpl : ∀ (i i' : Nat) (p : Pl), ρ i = some i' → φ.pl[i]? = some p → φ'.pl[i']? = some p) (hfz : ∀ (a : Addr) (cv : Value), φ.fz a = some cv → φ'.fz a = some cv)
    (hnew : ∀ (i : Nat) (p : Pl) (x : AObj) (a : Addr) (cv : Value), ρ i = none → φ.pl[i]? = some p → S[i]? = some x → live x → a.block = p.b → w.cell? a = some cv → φ'.fz a = some cv)
    {v u : AV} (h : Cv S ρ v u) : ∀ {cv : Value}, V w0 φ v cv → V w0 φ' u cv := by
  have two : ∀ {cs ds : List AV} {cvs : List Value}, cs.length = ds.length → cs.length = cvs.length → (∀ (j : Nat) (v u : AV), cs[j]? = some v → ds[j]? = some u → ∀ {cv : Value}, Avm.V w0 φ v cv → Avm.V w0 φ' u cv) →
      (∀ (j : Nat) (v : AV) (cv : Value), cs[j]? = some v → cvs[j]? = some cv → Avm.V w0 φ v cv) → ∀ (j : Nat) (u : AV) (cv : Value), ds[j]? = some u → cvs[j]? = some cv → Avm.V w0 φ' u cv := fun {cs ds cvs} h1 h2 ih hV j u cv a b => by
    have : j < cs.length := by have := (List.getElem?_eq_some_iff.1 b).1; omega
    exact ih j _ u (List.getElem?_eq_getElem this) a (hV j _ cv (List.getElem?_eq_getElem this) b)
  have froz : ∀ {id off n : Nat} {p : Pl} {cs ds : List AV}, ρ id = none → S[id]? = some (.cells cs) → φ.pl[id]? = some p → off + n ≤ cs.length → ((cs.drop off).take n).length = ds.length →
      (∀ (j : Nat) (v u : AV), ((cs.drop off).take n)[j]? = some v → ds[j]? = some u → ∀ {cv : Value}, Avm.V w0 φ v cv → Avm.V w0 φ' u cv) →
      ∃ cvs : List Value, ds.length = cvs.length ∧ cvs.length = n ∧ (∀ (j : Nat) (cv : Value), cvs[j]? = some cv → φ'.fz ⟨p.b, p.o + off + j, none⟩ = some cv) ∧
        (∀ (j : Nat) (u : AV) (cv : Value), ds[j]? = some u → cvs[j]? = some cv → Avm.V w0 φ' u cv) ∧ ∀ cv, cv ∈ cvs → cv.oneCell' = true := fun {id off n p cs ds} hρ hS hp hn hl ih => by
    obtain ⟨cvs, h1, h2, h3⟩ := hr.cells hp hS off n hn
    exact ⟨cvs, by rw [← hl]; exact h1.1.1, h2, fun j cv hj => hnew id p _ _ cv hρ hp hS trivial rfl (h3 j cv hj), two hl h1.1.1 ih h1.1.2, h1.2⟩
  induction h with
  | int k n => intro cv k; cases k; exact .int _ _
  | bool b => intro cv k; cases k; exact .bool _
  | str s => intro cv k; cases k; exact .str _
  | nilP => intro cv k; cases k; exact .nilP
  | ptr h => intro cv k; cases k with | ptr hp => exact .ptr (hpl _ _ _ h hp)
  | @fptr id off cs ds hρ hS ho hl h ih =>
    intro cv k
    obtain ⟨p, hp, rfl⟩ := k.ptr_inv
    have ht : (cs.drop off).take (cs.length - off) = cs.drop off := List.take_of_length_le (by simp)
    obtain ⟨cvs, h1, h2, h3, h4, h5⟩ := froz (off := off) (n := cs.length - off) (cs := cs) (ds := ds) hρ hS hp (by omega) (by rw [ht]; exact hl) (by rw [ht]; exact ih)
    exact .cptr h1 (fun j cv hj => by rw [add_none]; exact h3 j cv hj) h4 h5
  | cptr hl h ih => intro cv k; cases k with | cptr hl' hc h' ho => exact .cptr (by omega) (fun j cv hj => hfz _ _ (hc j cv hj)) (two hl hl' ih h') ho
  | nilS => intro cv k; cases k; exact .nilS
  | nilS0 => intro cv k; cases k; exact .csl0
  | emp => intro cv k; cases k; exact .emp
  | emp0 =>
    intro cv k
    obtain ⟨b, rfl⟩ := k.emp_inv
    cases b with
    | none => exact .csl0
    | some a => exact .csl (cvs := []) rfl (fun j cv h => by simp at h) (fun j v cv h => by simp at h) (fun cv h => by simp at h) (Nat.le_refl _)
  | nsl => intro cv k; cases k; exact .nsl
  | nsl0 =>
    intro cv k
    obtain ⟨a, c, rfl⟩ := k.nsl_inv
    exact .csl (cvs := []) rfl (fun j cv h => by simp at h) (fun j v cv h => by simp at h) (fun cv h => by simp at h) (Nat.zero_le _)
  | sl h => intro cv k; cases k with | sl hp ha ht hc hn hs hk => exact .sl (hpl _ _ _ h hp) ha ht hc hn hs hk
  | @fsl id off n sz cs ds hρ hS ho hl h ih =>
    intro cv k
    obtain ⟨a, c, p, rfl, hp, ha, _, _, hn, hs, _⟩ := k.sl_inv
    obtain ⟨cvs, h1, h2, h3, h4, h5⟩ := froz hρ hS hp ho hl ih
    refine .csl h1 (fun j cv hj => ?_) h4 h5 hn
    have hj' : j < cvs.length := (List.getElem?_eq_some_iff.1 hj).1
    have : 0 < n := Nat.pos_of_ne_zero fun h0 => by rw [h0, Nat.zero_mul] at h2; omega
    rw [ha (by omega), add_none]; exact h3 j cv hj
  | slc h => intro cv k; cases k with | slc hp ha hk hn hs => exact .slc (hpl _ _ _ h hp) ha hk hn hs
  | @fslc id off n c sz cs ds hρ hS ho hl h ih =>
    intro cv k
    obtain ⟨a, p, rfl, hp, ha, _, hn, hs⟩ := k.slc_inv
    obtain ⟨cvs, h1, h2, h3, h4, h5⟩ := froz hρ hS hp ho hl ih
    refine .csl h1 (fun j cv hj => ?_) h4 h5 hn
    have hj' : j < cvs.length := (List.getElem?_eq_some_iff.1 hj).1
    have : 0 < n := Nat.pos_of_ne_zero fun h0 => by rw [h0, Nat.zero_mul] at h2; omega
    rw [ha (by omega), add_none]; exact h3 j cv hj
  | @csl cs ds n hl h ih =>
    intro cv k
    obtain ⟨a, c, cvs, rfl, h1, hn, hc⟩ | ⟨rfl, rfl, rfl⟩ := k.csl_inv
    · exact .csl (by have := h1.1.1; omega) (fun j cv hj => hfz _ _ (hc j cv hj)) (two hl h1.1.1 ih h1.1.2) h1.2 hn
    · have : ds = [] := List.eq_nil_of_length_eq_zero (by simpa using hl.symm)
      subst this; exact .csl0
  | csln hl h ih => intro cv k; cases k with | csln hl' hc h' ho hn hb ha => exact .csln (by omega) (fun j cv hj => hfz _ _ (hc j cv hj)) (two hl hl' ih h') ho hn hb ha
  | cslnF hl h ih => intro cv k; cases k with | csln hl' hc h' ho hn hb ha => exact .csl (by omega) (fun j cv hj => hfz _ _ (hc j cv hj)) (two hl hl' ih h') ho hn
  | nilM => intro cv k; cases k; exact .nilM
  | map h => intro cv k; cases k with | map hp => exact .map (hpl _ _ _ h hp)
  | nilC => intro cv k; cases k; exact .nilC
  | chan h => intro cv k; cases k with | chan hp => exact .chan (hpl _ _ _ h hp)
  | fn hl h ih => intro cv k; cases k with | fn hl' h' => exact .fn (by omega) (two hl hl' ih h')
  | nilF => intro cv k; cases k; exact .nilF
  | nilI => intro cv k; cases k; exact .nilI
  | agg hl h ih => intro cv k; cases k with | agg hl' h' ho => exact .agg (by omega) (two hl hl' ih h') ho
  | tup hl h ih => intro cv k; cases k with | tup hl' h' => exact .tup (by omega) (two hl hl' ih h')
  | junk => intro cv k; cases k with | junk ho => exact .junk ho

theorem ObjCv.rel (hr : Rel w0 φ S w) (hV : ∀ {v u : AV} {cv : Value}, Cv S ρ v u → V w0 φ v cv → V w0 φ' u cv) {x y : AObj} (h : ObjCv S ρ x y) {p : Pl} (ho : objRel w0 φ w p x) : objRel w0 φ' w p y := by
  cases h with
  | cells hl h =>
    obtain ⟨h1, h2, ccs, e, fr, h3, h4, h5, h6, h7⟩ := ho
    refine ⟨by omega, h2, ccs, e, fr, h3, h4, h5, by omega, fun j u hu => ?_⟩
    have hj := (List.getElem?_eq_some_iff.1 hu).1
    obtain ⟨cv, a, b, c⟩ := h7 j _ (List.getElem?_eq_getElem (by omega))
    exact ⟨cv, a, hV (h j _ u (List.getElem?_eq_getElem (by omega)) hu) b, c⟩
  | map hl h =>
    obtain ⟨h2, ces, clk, h3, h4, h5⟩ := ho
    refine ⟨h2, ces, clk, h3, by omega, fun j k v e hj he => ?_⟩
    rename_i es fs
    have hj' := (List.getElem?_eq_some_iff.1 hj).1
    have q := h j es[j].1 es[j].2 k v (List.getElem?_eq_getElem (by omega)) hj
    have q2 := h5 j es[j].1 es[j].2 e (List.getElem?_eq_getElem (by omega)) he
    exact ⟨hV q.1 q2.1, hV q.2 q2.2⟩
  | chan hl h =>
    obtain ⟨h2, cb, s, r, h3, h4⟩ := ho
    refine ⟨h2, cb, s, r, h3, by have := h4.1; omega, fun j u cv hu hcv => ?_⟩
    rename_i cs ds
    have hj := (List.getElem?_eq_some_iff.1 hu).1
    exact hV (h j cs[j] u (List.getElem?_eq_getElem (by omega)) hu) (h4.2 j _ cv (List.getElem?_eq_getElem (by omega)) hcv)
  | dead => trivial

/-- objects of fewer places stay as they are -/
theorem objRel.cvRefl {p : Pl} {x : AObj} (h : objRel w0 φ w p x) {S1 : Store} (hρ : ∀ i, i < φ.pl.length → ρ i = some i) : ObjCv S1 ρ x x := by
  cases x with
  | cells cs =>
    obtain ⟨_, _, ccs, e, fr, _, _, _, _, h7⟩ := h
    exact .cells rfl fun j v u a b => by rw [a] at b; cases b; obtain ⟨cv, _, c, _⟩ := h7 j v a; exact c.cvRefl hρ
  | map es =>
    obtain ⟨_, ces, clk, _, h4, h5⟩ := h
    refine .map rfl fun j k v k' v' a b => ?_
    rw [a] at b; cases b
    have hj := (List.getElem?_eq_some_iff.1 a).1
    have := h5 j k v ces[j] a (by rw [Array.getElem?_eq_getElem])
    exact ⟨this.1.cvRefl hρ, this.2.cvRefl hρ⟩
  | chan c cs =>
    obtain ⟨_, cb, s, r, _, h4⟩ := h
    refine .chan rfl fun j v u a b => ?_
    rw [a] at b; cases b
    obtain ⟨cv, _, c⟩ := h4.get a
    exact c.cvRefl hρ
  | dead => exact .dead _
end

/-- what is there behind a call, told anew -/
def Conv (S0 S1 : Store) (v1 : AV) (S' : Store) (v' : AV) : Prop :=
  ∃ (ρ : Nat → Option Nat) (σ : Nat → Nat), (∀ i, i < S0.length → ρ i = some i) ∧ (∀ i i', ρ i = some i' → i' < S'.length ∧ σ i' = i) ∧
    (∀ i', i' < S'.length → σ i' < S1.length ∧ ρ (σ i') = some i') ∧
    (∀ i' x', S'[i']? = some x' → (i' < S0.length ∧ S0[i']? = some x' ∧ S1[i']? = some x') ∨ ∃ x, S1[σ i']? = some x ∧ ObjCv S1 ρ x x') ∧ Cv S1 ρ v1 v'

open Classical in
theorem Conv.rel {w0 w00 w : World} {φ0 φ : Pc} {S0 S1 S' : Store} {v1 v' : AV} {cv : Value} (hc : Conv S0 S1 v1 S' v') (h0 : Rel w0 φ0 S0 w00) (hx : Ext φ0 φ) (hr : Rel w0 φ S1 w) (hv : V w0 φ v1 cv) :
    ∃ φ', Ext φ0 φ' ∧ Rel w0 φ' S' w ∧ V w0 φ' v' cv := by
  obtain ⟨ρ, σ, hρ, hσ, hσ', hS, hV⟩ := hc
  let fz' : Addr → Option Value := fun a => if ∃ (i : Nat) (p : Pl) (x : AObj), ρ i = none ∧ φ.pl[i]? = some p ∧ S1[i]? = some x ∧ live x ∧ a.block = p.b then w.cell? a else φ.fz a
  let φ' : Pc := ⟨(List.range S'.length).map fun i' => (φ.pl[σ i']?).getD ⟨0, 0, 0, 0⟩, fz'⟩
  have hlen : φ'.pl.length = S'.length := by simp [φ']
  have hpl : ∀ (i i' : Nat) (p : Pl), ρ i = some i' → φ.pl[i]? = some p → φ'.pl[i']? = some p := fun i i' p h1 h2 => by
    obtain ⟨k1, k2⟩ := hσ i i' h1
    simp only [φ', List.getElem?_map, List.getElem?_range k1, Option.map_some, k2, h2, Option.getD_some]
  have hpl' : ∀ (i' : Nat) (p : Pl), φ'.pl[i']? = some p → φ.pl[σ i']? = some p ∧ ρ (σ i') = some i' ∧ i' < S'.length := fun i' p h => by
    have hi : i' < S'.length := by rw [← hlen]; exact (List.getElem?_eq_some_iff.1 h).1
    obtain ⟨k1, k2⟩ := hσ' i' hi
    obtain ⟨x, hx⟩ : ∃ x, S1[σ i']? = some x := ⟨_, List.getElem?_eq_getElem k1⟩
    obtain ⟨q, hq⟩ := hr.place hx
    have := hpl _ _ _ k2 hq
    rw [h] at this; cases this
    exact ⟨hq, k2, hi⟩
  have hfz : ∀ (a : Addr) (cv : Value), φ.fz a = some cv → fz' a = some cv := fun a cv h => by
    simp only [fz']
    split
    · exact hr.fz a cv h
    · exact h
  have hnew : ∀ (i : Nat) (p : Pl) (x : AObj) (a : Addr) (cv : Value), ρ i = none → φ.pl[i]? = some p → S1[i]? = some x → live x → a.block = p.b → w.cell? a = some cv → fz' a = some cv := fun i p x a cv h1 h2 h3 h4 h5 h6 => by
    simp only [fz']; rw [if_pos ⟨i, p, x, h1, h2, h3, h4, h5⟩]; exact h6
  have hVV : ∀ {v u : AV} {cv : Value}, Cv S1 ρ v u → V w0 φ v cv → V w0 φ' u cv := fun h k => h.V (φ' := φ') hr hpl hfz hnew k
  have hobj : ∀ (i' : Nat) (x' : AObj), S'[i']? = some x' → ∃ x, S1[σ i']? = some x ∧ ObjCv S1 ρ x x' := fun i' x' h => by
    rcases hS i' x' h with ⟨k1, k2, k3⟩ | k
    · obtain ⟨p, hp⟩ := h0.place k2
      have e : σ i' = i' := (hσ i' i' (hρ i' k1)).2
      exact ⟨x', by rw [e]; exact k3, (h0.obj i' p x' hp k2).cvRefl fun i hi => hρ i (by rw [← h0.len]; exact hi)⟩
    · exact k
  refine ⟨φ', ⟨fun i p hp => ?_, fun a cv h => hfz a cv (hx.fz a cv h)⟩, ⟨hr.below, hlen, fun a cv h => ?_, fun a cv i' p x' ha hp hx' hl => ?_, fun i j p q x y hp hq hx hy lx ly hb => ?_, fun i' p x' hp hx' => ?_⟩, hVV hV hv⟩
  · have hi : i < S0.length := by rw [← h0.len]; exact (List.getElem?_eq_some_iff.1 hp).1
    exact hpl i i p (hρ i hi) (hx.pl i p hp)
  · simp only [φ', fz'] at h
    split at h
    · exact h
    · exact hr.fz a cv h
  · obtain ⟨k1, k2, k3⟩ := hpl' i' p hp
    obtain ⟨x, hx1, hx2⟩ := hobj i' x' hx'
    have lx := hx2.live hl
    simp only [φ', fz'] at ha
    split at ha
    · rename_i hex
      obtain ⟨i, q, y, q1, q2, q3, q4, q5⟩ := hex
      intro hb
      have := hr.inj i (σ i') q p y x q2 k1 q3 hx1 q4 lx (by rw [← q5]; exact hb.symm)
      rw [this, k2] at q1; cases q1
    · exact hr.fzb a cv _ p x ha k1 hx1 lx
  · obtain ⟨k1, k2, k3⟩ := hpl' i p hp
    obtain ⟨m1, m2, m3⟩ := hpl' j q hq
    obtain ⟨x1, hx1, hx2⟩ := hobj i x hx
    obtain ⟨y1, hy1, hy2⟩ := hobj j y hy
    have := hr.inj _ _ p q x1 y1 k1 m1 hx1 hy1 (hx2.live lx) (hy2.live ly) hb
    rw [this, m2] at k2; cases k2; rfl
  · obtain ⟨k1, k2, k3⟩ := hpl' i' p hp
    obtain ⟨x, hx1, hx2⟩ := hobj i' x' hx'
    exact hx2.rel hr hVV (hr.obj _ p x k1 hx1)

def Env.add (E : Env) (f : Nat) (p : List AV → Store → Option (AV × Store)) : Env := ⟨E.F, fun g => if g = f then some fun _ => p else E.prim g⟩

/-- a function is one that does just this -/
def PrimOK (E : Env) (f : Nat) (p : List AV → Store → Option (AV × Store)) : Prop :=
  ∀ (args : List AV) (S : Store) (v : AV) (S' : Store), p args S = some (v, S') → ∃ N v1 S1, run E N f args S = some (v1, S1) ∧ Conv S S1 v1 S' v

theorem EnvOK.add {P : Program} {w0 : World} {E : Env} (hmix : P.follows .mixedOrders = true) (hE : EnvOK P w0 E) {f : Nat} {p : List AV → Store → Option (AV × Store)} (hp : PrimOK E f p) : EnvOK P w0 (E.add f p) where
  fn := hE.fn
  prim := fun g q hq cf hcf args S v S' h φ w vs hr hv => by
    simp only [Env.add] at hq
    split at hq
    · rename_i hg; subst hg
      cases hq
      obtain ⟨N, v1, S1, h1, h2⟩ := hp args S v S' h
      rcases run_ok hmix hE N g args S v1 S1 h1 φ w vs hr hv with k | ⟨f, xas, w1, k1, k2⟩
      · obtain ⟨φ', cv, w', k1, k2, k3, k4⟩ := k
        obtain ⟨φ2, m1, m2, m3⟩ := h2.rel hr k2 k3 k4
        exact .inl ⟨φ2, cv, w', k1, m1, m2, m3⟩
      · refine .inr ⟨f, xas, w1, k1, k2.mono fun e w' hb => ?_⟩
        obtain ⟨φ', cv, e1, e2, e3, e4⟩ := hb
        obtain ⟨φ2, m1, m2, m3⟩ := h2.rel hr e2 e3 e4
        exact ⟨φ2, cv, e1, m1, m2, m3⟩
    · exact hE.prim g q hq cf hcf args S v S' h φ w vs hr hv

end Go.Proofs.YtaajlbbooneiiaaDoor.Avm
set_option linter.unusedVariables false
set_option linter.unusedSimpArgs false
set_option linter.unusedSectionVars false
namespace Go.Proofs.YtaajlbbooneiiaaDoor.Avm
open Go.RowKit

mutual
/-- a value that leads to no object -/
def rd0 : AV → Option AV
  | .nilS => some (.csl [] 0)
  | .emp => some (.csl [] 0)
  | .nsl => some (.csl [] 0)
  | .csl cs n => (rd0L cs).map (.csl · n)
  | .csln cs n => (rd0L cs).map (.csl · n)
  | .cptr cs => (rd0L cs).map .cptr
  | .agg cs => (rd0L cs).map .agg
  | .tup cs => (rd0L cs).map .tup
  | .fn f cs => (rd0L cs).map (.fn f)
  | .int k n => some (.int k n)
  | .bool b => some (.bool b)
  | .str s => some (.str s)
  | .nilP => some .nilP
  | .nilM => some .nilM
  | .nilC => some .nilC
  | .nilF => some .nilF
  | .nilI => some .nilI
  | _ => none
def rd0L : List AV → Option (List AV)
  | [] => some []
  | v :: l => (rd0 v).bind fun u => (rd0L l).map (u :: ·)
end
mutual
/-- a value, read in a store: its own rows too -/
def rdS (S : Store) : AV → Option AV
  | .sl id off n sz => match S[id]? with
    | some (.cells cs) => if off + n * sz ≤ cs.length then (rd0L ((cs.drop off).take (n * sz))).map (.csl · n) else none
    | _ => none
  | .slc id off n _ sz => match S[id]? with
    | some (.cells cs) => if off + n * sz ≤ cs.length then (rd0L ((cs.drop off).take (n * sz))).map (.csl · n) else none
    | _ => none
  | .agg cs => (rdSL S cs).map .agg
  | .tup cs => (rdSL S cs).map .tup
  | .csl cs n => (rdSL S cs).map (.csl · n)
  | v => rd0 v
def rdSL (S : Store) : List AV → Option (List AV)
  | [] => some []
  | v :: l => (rdS S v).bind fun u => (rdSL S l).map (u :: ·)
end
mutual
/-- the objects that a value's rows lie in -/
def topIds : AV → List Nat
  | .sl id _ _ _ => [id]
  | .slc id _ _ _ _ => [id]
  | .agg cs => topIdsL cs
  | .tup cs => topIdsL cs
  | .csl cs _ => topIdsL cs
  | _ => []
def topIdsL : List AV → List Nat
  | [] => []
  | v :: l => topIds v ++ topIdsL l
end

section
variable {w0 w1 w : World} {φ φ' : Pc} {S : Store}

mutual
theorem rd0_V (hz : ∀ a cv, φ.fz a = some cv → φ'.fz a = some cv) : ∀ {v u : AV} {cv : Value}, rd0 v = some u → V w0 φ v cv → V w1 φ' u cv
  | .nilS, u, cv, h, k => by simp only [rd0, Option.some.injEq] at h; subst h; cases k; exact .csl0
  | .emp, u, cv, h, k => by
    simp only [rd0, Option.some.injEq] at h; subst h
    obtain ⟨b, rfl⟩ := k.emp_inv
    cases b with
    | none => exact .csl0
    | some a => exact .csl (cvs := []) rfl (fun j cv h => by simp at h) (fun j v cv h => by simp at h) (fun cv h => by simp at h) (Nat.le_refl _)
  | .nsl, u, cv, h, k => by
    simp only [rd0, Option.some.injEq] at h; subst h
    obtain ⟨a, c, rfl⟩ := k.nsl_inv
    exact .csl (cvs := []) rfl (fun j cv h => by simp at h) (fun j v cv h => by simp at h) (fun cv h => by simp at h) (Nat.zero_le _)
  | .csl cs n, u, cv, h, k => by
    simp only [rd0, Option.map_eq_some_iff] at h
    obtain ⟨ds, h, rfl⟩ := h
    obtain ⟨a, c, cvs, rfl, h1, hn, hc⟩ | ⟨rfl, rfl, rfl⟩ := k.csl_inv
    · obtain ⟨q1, q2⟩ := rd0L_V hz h h1.1
      exact .csl q1 (fun j cv hj => hz _ _ (hc j cv hj)) q2 h1.2 hn
    · simp only [rd0L, Option.some.injEq] at h; subst h; exact .csl0
  | .csln cs n, u, cv, h, k => by
    simp only [rd0, Option.map_eq_some_iff] at h
    obtain ⟨ds, h, rfl⟩ := h
    cases k with | csln hl hc h1 ho hn _ _ =>
    obtain ⟨q1, q2⟩ := rd0L_V hz h ⟨hl, h1⟩
    exact .csl q1 (fun j cv hj => hz _ _ (hc j cv hj)) q2 ho hn
  | .cptr cs, u, cv, h, k => by
    simp only [rd0, Option.map_eq_some_iff] at h
    obtain ⟨ds, h, rfl⟩ := h
    cases k with | cptr hl hc h1 ho =>
    obtain ⟨q1, q2⟩ := rd0L_V hz h ⟨hl, h1⟩
    exact .cptr q1 (fun j cv hj => hz _ _ (hc j cv hj)) q2 ho
  | .agg cs, u, cv, h, k => by
    simp only [rd0, Option.map_eq_some_iff] at h
    obtain ⟨ds, h, rfl⟩ := h
    cases k with | agg hl h1 ho =>
    obtain ⟨q1, q2⟩ := rd0L_V hz h ⟨hl, h1⟩
    exact .agg q1 q2 ho
  | .tup cs, u, cv, h, k => by
    simp only [rd0, Option.map_eq_some_iff] at h
    obtain ⟨ds, h, rfl⟩ := h
    cases k with | tup hl h1 =>
    obtain ⟨q1, q2⟩ := rd0L_V hz h ⟨hl, h1⟩
    exact .tup q1 q2
  | .fn f cs, u, cv, h, k => by
    simp only [rd0, Option.map_eq_some_iff] at h
    obtain ⟨ds, h, rfl⟩ := h
    cases k with | fn hl h1 =>
    obtain ⟨q1, q2⟩ := rd0L_V hz h ⟨hl, h1⟩
    exact .fn q1 q2
  | .int _ _, u, cv, h, k => by simp only [rd0, Option.some.injEq] at h; subst h; cases k; exact .int _ _
  | .bool _, u, cv, h, k => by simp only [rd0, Option.some.injEq] at h; subst h; cases k; exact .bool _
  | .str _, u, cv, h, k => by simp only [rd0, Option.some.injEq] at h; subst h; cases k; exact .str _
  | .nilP, u, cv, h, k => by simp only [rd0, Option.some.injEq] at h; subst h; cases k; exact .nilP
  | .nilM, u, cv, h, k => by simp only [rd0, Option.some.injEq] at h; subst h; cases k; exact .nilM
  | .nilC, u, cv, h, k => by simp only [rd0, Option.some.injEq] at h; subst h; cases k; exact .nilC
  | .nilF, u, cv, h, k => by simp only [rd0, Option.some.injEq] at h; subst h; cases k; exact .nilF
  | .nilI, u, cv, h, k => by simp only [rd0, Option.some.injEq] at h; subst h; cases k; exact .nilI
  | .ptr _ _, u, cv, h, k => by simp [rd0] at h
  | .sl _ _ _ _, u, cv, h, k => by simp [rd0] at h
  | .slc _ _ _ _ _, u, cv, h, k => by simp [rd0] at h
  | .map _, u, cv, h, k => by simp [rd0] at h
  | .chan _, u, cv, h, k => by simp [rd0] at h
  | .junk, u, cv, h, k => by simp [rd0] at h
theorem rd0L_V (hz : ∀ a cv, φ.fz a = some cv → φ'.fz a = some cv) : ∀ {cs ds : List AV} {cvs : List Value}, rd0L cs = some ds → Vs w0 φ cs cvs → Vs w1 φ' ds cvs
  | [], ds, cvs, h, k => by
    simp only [rd0L, Option.some.injEq] at h; subst h
    have : cvs = [] := List.eq_nil_of_length_eq_zero k.1.symm
    subst this; exact .nil
  | v :: l, ds, cvs, h, k => by
    simp only [rd0L, Option.bind_eq_some_iff, Option.map_eq_some_iff] at h
    obtain ⟨u, h1, us, h2, rfl⟩ := h
    obtain ⟨cv, cvs', rfl, k1, k2⟩ := k.cons_inv
    exact .cons (rd0_V hz h1 k1) (rd0L_V hz h2 k2)
end

mutual
theorem rdS_V (hr : Rel w0 φ S w) (hz : ∀ a cv, φ.fz a = some cv → φ'.fz a = some cv) : ∀ {v u : AV} {cv : Value},
    (∀ i, i ∈ topIds v → ∀ (p : Pl) (x : AObj) (a : Addr) (cv : Value), φ.pl[i]? = some p → S[i]? = some x → live x → a.block = p.b → w.cell? a = some cv → φ'.fz a = some cv) →
    rdS S v = some u → V w0 φ v cv → V w1 φ' u cv
  | .sl id off n sz, u, cv, hD, h, k => by
    simp only [rdS] at h
    split at h
    · rename_i cs hS
      split at h
      · rename_i hb
        obtain ⟨ds, h', rfl⟩ := Option.map_eq_some_iff.1 h
        obtain ⟨a, c, p, rfl, hp, ha, _, _, hn, hs, _⟩ := k.sl_inv
        obtain ⟨cvs, h1, h2, h3⟩ := hr.cells hp hS off (n * sz) hb
        obtain ⟨q1, q2⟩ := rd0L_V (w1 := w1) hz h' h1.1
        refine .csl q1 (fun j cv hj => ?_) q2 h1.2 hn
        have hj' : j < cvs.length := (List.getElem?_eq_some_iff.1 hj).1
        have : 0 < n := Nat.pos_of_ne_zero fun h0 => by rw [h0, Nat.zero_mul] at h2; omega
        rw [ha (by omega), add_none]
        exact hD id (by simp [topIds]) p _ _ cv hp hS trivial rfl (h3 j cv hj)
      · cases h
    · cases h
  | .slc id off n c sz, u, cv, hD, h, k => by
    simp only [rdS] at h
    split at h
    · rename_i cs hS
      split at h
      · rename_i hb
        obtain ⟨ds, h', rfl⟩ := Option.map_eq_some_iff.1 h
        obtain ⟨a, p, rfl, hp, ha, _, hn, hs⟩ := k.slc_inv
        obtain ⟨cvs, h1, h2, h3⟩ := hr.cells hp hS off (n * sz) hb
        obtain ⟨q1, q2⟩ := rd0L_V (w1 := w1) hz h' h1.1
        refine .csl q1 (fun j cv hj => ?_) q2 h1.2 hn
        have hj' : j < cvs.length := (List.getElem?_eq_some_iff.1 hj).1
        have : 0 < n := Nat.pos_of_ne_zero fun h0 => by rw [h0, Nat.zero_mul] at h2; omega
        rw [ha (by omega), add_none]
        exact hD id (by simp [topIds]) p _ _ cv hp hS trivial rfl (h3 j cv hj)
      · cases h
    · cases h
  | .agg cs, u, cv, hD, h, k => by
    simp only [rdS, Option.map_eq_some_iff] at h
    obtain ⟨ds, h, rfl⟩ := h
    cases k with | agg hl h1 ho =>
    obtain ⟨q1, q2⟩ := rdSL_V hr hz (fun i hi => hD i (by simpa [topIds] using hi)) h ⟨hl, h1⟩
    exact .agg q1 q2 ho
  | .tup cs, u, cv, hD, h, k => by
    simp only [rdS, Option.map_eq_some_iff] at h
    obtain ⟨ds, h, rfl⟩ := h
    cases k with | tup hl h1 =>
    obtain ⟨q1, q2⟩ := rdSL_V hr hz (fun i hi => hD i (by simpa [topIds] using hi)) h ⟨hl, h1⟩
    exact .tup q1 q2
  | .csl cs n, u, cv, hD, h, k => by
    simp only [rdS, Option.map_eq_some_iff] at h
    obtain ⟨ds, h, rfl⟩ := h
    obtain ⟨a, c, cvs, rfl, h1, hn, hc⟩ | ⟨rfl, rfl, rfl⟩ := k.csl_inv
    · obtain ⟨q1, q2⟩ := rdSL_V hr hz (fun i hi => hD i (by simpa [topIds] using hi)) h h1.1
      exact .csl q1 (fun j cv hj => hz _ _ (hc j cv hj)) q2 h1.2 hn
    · simp only [rdSL, Option.some.injEq] at h; subst h; exact .csl0
  | .nilS, u, cv, hD, h, k | .emp, u, cv, hD, h, k | .nsl, u, cv, hD, h, k | .csln _ _, u, cv, hD, h, k | .cptr _, u, cv, hD, h, k | .fn _ _, u, cv, hD, h, k | .int _ _, u, cv, hD, h, k | .bool _, u, cv, hD, h, k
  | .str _, u, cv, hD, h, k | .nilP, u, cv, hD, h, k | .nilM, u, cv, hD, h, k | .nilC, u, cv, hD, h, k | .nilF, u, cv, hD, h, k | .nilI, u, cv, hD, h, k | .ptr _ _, u, cv, hD, h, k | .map _, u, cv, hD, h, k | .chan _, u, cv, hD, h, k | .junk, u, cv, hD, h, k => rd0_V hz (by simpa only [rdS] using h) k
theorem rdSL_V (hr : Rel w0 φ S w) (hz : ∀ a cv, φ.fz a = some cv → φ'.fz a = some cv) : ∀ {cs ds : List AV} {cvs : List Value},
    (∀ i, i ∈ topIdsL cs → ∀ (p : Pl) (x : AObj) (a : Addr) (cv : Value), φ.pl[i]? = some p → S[i]? = some x → live x → a.block = p.b → w.cell? a = some cv → φ'.fz a = some cv) →
    rdSL S cs = some ds → Vs w0 φ cs cvs → Vs w1 φ' ds cvs
  | [], ds, cvs, hD, h, k => by
    simp only [rdSL, Option.some.injEq] at h; subst h
    have : cvs = [] := List.eq_nil_of_length_eq_zero k.1.symm
    subst this; exact .nil
  | v :: l, ds, cvs, hD, h, k => by
    simp only [rdSL, Option.bind_eq_some_iff, Option.map_eq_some_iff] at h
    obtain ⟨u, h1, us, h2, rfl⟩ := h
    obtain ⟨cv, cvs', rfl, k1, k2⟩ := k.cons_inv
    exact .cons (rdS_V hr hz (fun i hi => hD i (by simp [topIdsL, hi])) h1 k1) (rdSL_V hr hz (fun i hi => hD i (by simp [topIdsL, hi])) h2 k2)
end
end

/-- objects given up -/
def killL (ids : List Nat) (S : Store) : Store := ids.foldl (fun S i => S.set i .dead) S
theorem killL_nil (S : Store) : killL [] S = S := rfl
theorem killL_cons (i : Nat) (ids : List Nat) (S : Store) : killL (i :: ids) S = killL ids (S.set i .dead) := rfl
theorem killL_len : ∀ (ids : List Nat) (S : Store), (killL ids S).length = S.length
  | [], _ => rfl
  | i :: ids, S => by rw [killL_cons, killL_len]; simp
theorem killL_get : ∀ (ids : List Nat) (S : Store) (i : Nat) (x : AObj), (killL ids S)[i]? = some x → live x → S[i]? = some x ∧ ¬ i ∈ ids
  | [], _, _, _, h, _ => ⟨h, by simp⟩
  | j :: ids, S, i, x, h, hl => by
    rw [killL_cons] at h
    obtain ⟨h1, h2⟩ := killL_get ids _ i x h hl
    by_cases e : j = i
    · subst e; rw [List.getElem?_set] at h1; simp at h1; obtain ⟨_, rfl⟩ := h1; exact hl.elim
    · rw [List.getElem?_set_ne e] at h1; exact ⟨h1, by simp only [List.mem_cons, not_or]; exact ⟨fun q => e q.symm, h2⟩⟩

open Classical in
/-- objects made good -/
theorem Rel.give {w0 w : World} {φ : Pc} {S : Store} (hr : Rel w0 φ S w) (ids : List Nat) :
    ∃ φ', Ext φ φ' ∧ Rel w0 φ' (killL ids S) w ∧ ∀ i, i ∈ ids → ∀ (p : Pl) (x : AObj) (a : Addr) (cv : Value), φ.pl[i]? = some p → S[i]? = some x → live x → a.block = p.b → w.cell? a = some cv → φ'.fz a = some cv := by
  let φ' : Pc := ⟨φ.pl, fun a => if ∃ (i : Nat) (p : Pl) (x : AObj), i ∈ ids ∧ φ.pl[i]? = some p ∧ S[i]? = some x ∧ live x ∧ a.block = p.b then w.cell? a else φ.fz a⟩
  have hx : Ext φ φ' := ⟨fun _ _ h => h, fun a cv h => by
    simp only [φ']; split
    · exact hr.fz a cv h
    · exact h⟩
  refine ⟨φ', hx, ⟨hr.below, by rw [killL_len]; exact hr.len, fun a cv h => ?_, fun a cv i p x h hp hS hl => ?_, fun i j p q x y hp hq hS hT lx ly hb => ?_, fun i p x hp hS => ?_⟩, fun i hi p x a cv hp hS hl hb hc => ?_⟩
  · simp only [φ'] at h
    split at h
    · exact h
    · exact hr.fz a cv h
  · obtain ⟨h1, h2⟩ := killL_get ids S i x hS hl
    simp only [φ'] at h
    split at h
    · rename_i hex
      obtain ⟨j, q, y, k1, k2, k3, k4, k5⟩ := hex
      intro hb
      have := hr.inj j i q p y x k2 hp k3 h1 k4 hl (by rw [← k5]; exact hb.symm)
      subst this; exact h2 k1
    · exact hr.fzb a cv i p x h hp h1 hl
  · exact hr.inj i j p q x y hp hq (killL_get ids S i x hS lx).1 (killL_get ids S j y hT ly).1 lx ly hb
  · by_cases hl : live x
    · exact (hr.obj i p x hp (killL_get ids S i x hS hl).1).mono hx
    · cases x <;> first | trivial | exact absurd trivial hl
  · simp only [φ']; rw [if_pos ⟨i, p, x, hi, hp, hS, hl, hb⟩]; exact hc

/-! ### calls that answer with scalars -/
def Scal (v : AV) : Prop := ∀ (w0 w1 : World) (φ φ' : Pc) (cv : Value), V w0 φ v cv → V w1 φ' v cv

noncomputable section
open Classical
variable {α : Type}
/-- what a call answers, by what its arguments read as; nothing turns -/
def primS (enc : α → List AV) (res : α → Option AV) (args : List AV) (S : Store) : Option (AV × Store) :=
  if h : ∃ a, rdSL S args = some (enc a) then (res h.choose).map fun v => (v, S) else none
/-- likewise; the arguments' rows are given up -/
def primG (enc : α → List AV) (res : α → Option AV) (args : List AV) (S : Store) : Option (AV × Store) :=
  if h : ∃ a, rdSL S args = some (enc a) then (res h.choose).map fun v => (v, killL (topIdsL args) S) else none
end

def Inj {α : Type} (enc : α → List AV) : Prop := ∀ a b, enc a = enc b → a = b
section
variable {α : Type} {enc : α → List AV} {res : α → Option AV} {args : List AV} {S S' : Store} {a : α} {v : AV}
theorem primS_eq (hi : Inj enc) (h : rdSL S args = some (enc a)) (hr : res a = some v) : primS enc res args S = some (v, S) := by
  have he : ∃ a, rdSL S args = some (enc a) := ⟨a, h⟩
  have : he.choose = a := hi _ _ (Option.some.inj (he.choose_spec.symm.trans h))
  unfold primS; rw [dif_pos he, this, hr]; rfl
theorem primG_eq (hi : Inj enc) (h : rdSL S args = some (enc a)) (hr : res a = some v) : primG enc res args S = some (v, killL (topIdsL args) S) := by
  have he : ∃ a, rdSL S args = some (enc a) := ⟨a, h⟩
  have : he.choose = a := hi _ _ (Option.some.inj (he.choose_spec.symm.trans h))
  unfold primG; rw [dif_pos he, this, hr]; rfl
theorem primS_inv (h : primS enc res args S = some (v, S')) : ∃ a, rdSL S args = some (enc a) ∧ res a = some v ∧ S' = S := by
  unfold primS at h
  split at h
  · rename_i he
    obtain ⟨u, h1, h2⟩ := Option.map_eq_some_iff.1 h
    cases h2; exact ⟨_, he.choose_spec, h1, rfl⟩
  · cases h
theorem primG_inv (h : primG enc res args S = some (v, S')) : ∃ a, rdSL S args = some (enc a) ∧ res a = some v ∧ S' = killL (topIdsL args) S := by
  unfold primG at h
  split at h
  · rename_i he
    obtain ⟨u, h1, h2⟩ := Option.map_eq_some_iff.1 h
    cases h2; exact ⟨_, he.choose_spec, h1, rfl⟩
  · cases h
end

/-- a function answers just so, with scalars -/
def OkS {α : Type} (E : Env) (f : Nat) (enc : α → List AV) (res : α → Option AV) : Prop := ∀ a v, res a = some v → ∃ S1, Is E f (enc a) [] v S1
/-- a function answers just so, with what stays as it is -/
def OkG {α : Type} (E : Env) (f : Nat) (enc : α → List AV) (res : α → Option AV) : Prop := ∀ a v S, res a = some v → ∃ v1 S1, Is E f (enc a) S v1 S1 ∧ Conv S S1 v1 S v

def AllOK (P : Program) (E : Env) : Prop := ∀ w0, EnvOK P w0 E

theorem Rel.later {w0 w w' : World} {φ : Pc} {S : Store} (h : Rel w0 φ S w) (hb : Below w.heap.size w w') : Rel w0 φ S w' :=
  ⟨⟨hb.os.trans h.below.os, hb.tape.trans h.below.tape, hb.output.trans h.below.output, Nat.le_trans h.below.size hb.size, fun k hk => (hb.block k (Nat.lt_of_lt_of_le hk h.below.size)).trans (h.below.block k hk)⟩, h.len,
    fun a cv ha => by
      have hc := h.fz a cv ha
      have := World.block_lt_of_cell? w a hc
      simp only [World.cell?] at hc ⊢; rw [hb.block _ this]; exact hc,
    h.fzb, h.inj, fun i p x hp hx => by
      by_cases hl : live x
      · exact (h.obj i p x hp hx).heap (hb.block _ ((h.obj i p x hp hx).lt hl).2)
      · cases x <;> first | trivial | exact absurd trivial hl⟩

theorem AllOK.addS {P : Program} {E : Env} (hmix : P.follows .mixedOrders = true) (hE : AllOK P E) {α : Type} {enc : α → List AV} {res : α → Option AV} (hs : ∀ a v, res a = some v → Scal v) {f : Nat} (h : OkS E f enc res) : AllOK P (E.add f (primS enc res)) := fun w0 =>
  { fn := (hE w0).fn
    prim := fun g q hq cf hcf args S v S' hp φ w vs hr hv => by
      simp only [Env.add] at hq
      split at hq
      · rename_i hg; subst hg; cases hq
        obtain ⟨a, h1, h2, rfl⟩ := primS_inv hp
        obtain ⟨S1, N, hN⟩ := h a v h2
        have hr0 : Rel w ⟨[], w.cell?⟩ [] w := ⟨Below.refl _ _, rfl, fun _ _ h => h, fun a cv i p x _ hp => by simp at hp, fun i j p q x y hp => by simp at hp, fun i p x hp => by simp at hp⟩
        have hv0 : Vs w ⟨[], w.cell?⟩ (enc a) vs := rdSL_V hr (fun a cv h => hr.fz a cv h) (fun i _ p x a cv _ _ _ _ hc => hc) h1 hv
        rcases run_ok hmix (hE w) N g (enc a) [] v S1 (hN N (Nat.le_refl _)) _ w vs hr0 hv0 with k | ⟨f, xas, w1, k1, k2⟩
        · obtain ⟨φ', cv, w', k1, k2, k3, k4⟩ := k
          exact .inl ⟨φ, cv, w', k1, .refl _, hr.later k3.below, hs a v h2 _ _ _ _ _ k4⟩
        · refine .inr ⟨f, xas, w1, k1, k2.mono fun e w' hb => ?_⟩
          obtain ⟨φ', cv, e1, e2, e3, e4⟩ := hb
          exact ⟨φ, cv, e1, .refl _, hr.later e3.below, hs a v h2 _ _ _ _ _ e4⟩
      · exact (hE w0).prim g q hq cf hcf args S v S' hp φ w vs hr hv }

theorem AllOK.addG {P : Program} {E : Env} (hmix : P.follows .mixedOrders = true) (hE : AllOK P E) {α : Type} {enc : α → List AV} {res : α → Option AV} {f : Nat} (h : OkG E f enc res) : AllOK P (E.add f (primG enc res)) := fun w0 =>
  { fn := (hE w0).fn
    prim := fun g q hq cf hcf args S v S' hp φ w vs hr hv => by
      simp only [Env.add] at hq
      split at hq
      · rename_i hg; subst hg; cases hq
        obtain ⟨a, h1, h2, rfl⟩ := primG_inv hp
        obtain ⟨φ1, g1, g2, g3⟩ := hr.give (topIdsL args)
        obtain ⟨v1, S1, ⟨N, hN⟩, hc⟩ := h a v (killL (topIdsL args) S) h2
        have hv0 : Vs w0 φ1 (enc a) vs := rdSL_V hr g1.fz g3 h1 hv
        rcases run_ok hmix (hE w0) N g (enc a) _ v1 S1 (hN N (Nat.le_refl _)) _ w vs g2 hv0 with k | ⟨f, xas, w1, k1, k2⟩
        · obtain ⟨φ', cv, w', k1, k2, k3, k4⟩ := k
          obtain ⟨φ2, m1, m2, m3⟩ := hc.rel g2 k2 k3 k4
          exact .inl ⟨φ2, cv, w', k1, g1.trans m1, m2, m3⟩
        · refine .inr ⟨f, xas, w1, k1, k2.mono fun e w' hb => ?_⟩
          obtain ⟨φ', cv, e1, e2, e3, e4⟩ := hb
          obtain ⟨φ2, m1, m2, m3⟩ := hc.rel g2 e2 e3 e4
          exact ⟨φ2, cv, e1, g1.trans m1, m2, m3⟩
      · exact (hE w0).prim g q hq cf hcf args S v S' hp φ w vs hr hv }

theorem AllOK.add {P : Program} {E : Env} (hmix : P.follows .mixedOrders = true) (hE : AllOK P E) {f : Nat} {p : List AV → Store → Option (AV × Store)} (hp : PrimOK E f p) : AllOK P (E.add f p) := fun w0 => (hE w0).add hmix hp

end Go.Proofs.YtaajlbbooneiiaaDoor.Avm
