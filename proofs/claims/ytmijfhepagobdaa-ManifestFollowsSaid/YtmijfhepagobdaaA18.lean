/- A region whose order is drawn: every order. -/
import Derived.Test.YtmijfhepagobdaaA17
set_option linter.unusedVariables false
set_option linter.unusedSimpArgs false
set_option linter.unusedSectionVars false
namespace Go.Proofs.Ytmijfhepagobdaa.Avm
open Go.RowKit

def cnt (l : Array Bool) : Nat := l.toList.countP (!·)
theorem cnt_set {l : Array Bool} {i : Nat} (hi : i < l.size) (h : l.getD i true = false) : cnt l = cnt (l.setIfInBounds i true) + 1 := by
  unfold cnt
  rw [Array.toList_setIfInBounds]
  have hil : i < l.toList.length := by simpa using hi
  have hget : l.toList[i] = false := by
    rw [Array.getD_eq_getD_getElem?, Array.getElem?_eq_getElem hi] at h
    simpa using h
  have h1 : l.toList = l.toList.take i ++ l.toList[i] :: l.toList.drop (i + 1) := by
    rw [← List.drop_eq_getElem_cons hil, List.take_append_drop]
  have h2 : l.toList.set i true = l.toList.take i ++ true :: l.toList.drop (i + 1) := by
    rw [List.set_eq_take_append_cons_drop, if_pos hil]
  rw [h2]
  conv => lhs; rw [h1]
  simp [List.countP_append, List.countP_cons, hget]
  omega
theorem cnt_zero {l : Array Bool} (h : cnt l = 0) {i : Nat} (hi : i < l.size) : l.getD i false = true := by
  unfold cnt at h
  rw [List.countP_eq_zero] at h
  have := h l[i] (by simp)
  simpa [Array.getElem?_eq_getElem hi] using this
theorem set_iff {l : Array Bool} {i j : Nat} (hi : i < l.size) : (l.setIfInBounds i true).getD j false = true ↔ l.getD j false = true ∨ j = i := by
  by_cases h : i = j
  · subst h; simp [hi]
  · simp [Array.getElem?_setIfInBounds_ne h]; exact fun e => absurd e.symm h

theorem rep_false {n i : Nat} : (Array.replicate n false).getD i false = true → False := by
  rw [Array.getD_eq_getD_getElem?, Array.getElem?_replicate]
  split <;> simp

section
variable {P : Program} {w0 : World} {gl al : List Nat} {N : Nat} {ops : List Oper} {g : Frame} {S : Store} {st : Nat → St} {cf : CallF} {fl : List (Nat × Nat)} {φ0 : Pc} {Q : Exit → Act → World → Prop}

theorem region_any (hcf : CallOK P w0 cf) (hT : Tr cf g S (compOps P gl al [] ops) st) (hk : Okay N ops) (hd : drawOk ops (compOps P gl al [] ops) fl = true) (hf : floats cf g S (compOps P gl al [] ops) fl = true)
    (hQ : ∀ φ' a' w', Ext φ0 φ' → Rel w0 φ' (st ops.length).S w' → FRel w0 φ' gl N (st ops.length).g a' → Q .normal a' w') :
    ∀ (fuel : Nat) (listed : Array Bool) (φ : Pc) (a : Act) (w : World) (k : Nat), cnt listed = fuel → listed.size = ops.length → Ext φ0 φ →
      (∀ j o, listed.getD j false = true → ops[j]? = some o → ∀ d ∈ deps o, listed.getD d false = true) → Meets P gl al ops (fun i => listed.getD i false = true) k →
      RInv w0 gl N ops g st (fun i => listed.getD i false = true) φ a → Rel w0 φ (st k).S w → wpAny P .any ops.toArray Q fuel listed a w := by
  have hlen := compOps_len P gl al ops []
  -- at the end
  have fin : ∀ (listed : Array Bool) (φ : Pc) (a : Act) (w : World) (k : Nat), (∀ i, i < ops.length → listed.getD i false = true) → Ext φ0 φ → Meets P gl al ops (fun i => listed.getD i false = true) k →
      RInv w0 gl N ops g st (fun i => listed.getD i false = true) φ a → Rel w0 φ (st k).S w → Q .normal a w := fun listed φ a w k hall hx hm hi hr => by
    refine hQ φ a w hx ?_ (hi.done hT hk hall)
    have := hT.same (a := k) (b := ops.length) hm.le (by rw [hlen]; omega) fun j i h1 h2 hj => by
      cases hev : isEvent i.op with
      | false => rfl
      | true => exact absurd (hall j h2) (hm.new j i h1 hj hev)
    rw [this]; exact hr
  intro fuel
  induction fuel with
  | zero =>
    intro listed φ a w k hc hs hx hcl hm hi hr
    have hall : ∀ i, i < ops.length → listed.getD i false = true := fun i hi => cnt_zero hc (by omega)
    refine ⟨?_, fin listed φ a w k hall hx hm hi hr⟩
    refine List.eq_nil_iff_forall_not_mem.2 fun j hj => ?_
    obtain ⟨h1, o, ho, _⟩ := mem_ready.1 hj
    have hjl : j < ops.length := (List.getElem?_eq_some_iff.1 (by simpa using ho)).1
    have h2 := hall j hjl
    rw [Array.getD_eq_getD_getElem?, Array.getElem?_eq_getElem (show j < listed.size by omega)] at h1 h2
    simp at h1 h2; rw [h1] at h2; cases h2
  | succ fuel ih =>
    intro listed φ a w k hc hs hx hcl hm hi hr
    refine ⟨fun hnil => ?_, fun j hj => ?_⟩
    · have hall : ∀ i, i < ops.length → listed.getD i false = true := by
        intro i
        induction i using Nat.strongRecOn with
        | ind i ihi =>
          intro hil
          cases hli : listed.getD i false with
          | true => rfl
          | false =>
            exfalso
            have hmem : i ∈ Region.ready .any ops.toArray listed := by
              refine mem_ready.2 ⟨?_, ops[i], by simp [hil], fun e he hb => ihi e.on ?_ ?_⟩
              · rw [Array.getD_eq_getD_getElem?, Array.getElem?_eq_getElem (show i < listed.size by omega)] at hli ⊢
                simpa using hli
              · exact hk.aft i _ (List.getElem?_eq_getElem hil) e he hb
              · have := hk.aft i _ (List.getElem?_eq_getElem hil) e he hb; omega
            rw [hnil] at hmem; cases hmem
      exact fin listed φ a w k hall hx hm hi hr
    · obtain ⟨h1, o, ho, hdeps⟩ := mem_ready.1 hj
      have ho' : ops[j]? = some o := by simpa using ho
      have hjl : j < ops.length := (List.getElem?_eq_some_iff.1 ho').1
      have hready : ∀ d ∈ deps o, listed.getD d false = true := fun d hd' => by
        simp only [deps, List.mem_map, List.mem_filter, Array.mem_toList_iff] at hd'
        obtain ⟨e, ⟨he, hb⟩, rfl⟩ := hd'
        exact hdeps e he hb
      have hn : ¬ listed.getD j false = true := fun h => by
        rw [Array.getD_eq_getD_getElem?, Array.getElem?_eq_getElem (show j < listed.size by omega)] at h1 h
        simp at h1 h; rw [h1] at h; cases h
      have hins := compOps_get P gl al ops [] j o ho'
      rw [List.nil_append] at hins
      have hcl' : ∀ i o', (listed.setIfInBounds j true).getD i false = true → ops[i]? = some o' → ∀ d ∈ deps o', (listed.setIfInBounds j true).getD d false = true := fun i o' hl hoi d hd' => by
        rcases (set_iff (by omega)).1 hl with h | h
        · exact (set_iff (by omega)).2 (.inl (hcl i o' h hoi d hd'))
        · subst h; rw [ho'] at hoi; cases hoi; exact (set_iff (by omega)).2 (.inl (hready d hd'))
      have hfun : (fun i => listed.getD i false = true ∨ i = j) = fun i => (listed.setIfInBounds j true).getD i false = true := funext fun i => propext (set_iff (by omega)).symm
      have hcn : cnt (listed.setIfInBounds j true) = fuel := by have := cnt_set (l := listed) (i := j) (by omega) h1; omega
      have H1 : ∀ (t i : Nat) (o' : Oper), Operand.tmp t ∈ o.op.operands → i < j → ops[i]? = some o' → o'.dst = some t → listed.getD i false = true := fun t i o' hop hij hoi hdst =>
        before_ok hT hk hd hcl ho' hn hready hij hoi hdst (looks_op hop)
      have H2 : ∀ (t i : Nat) (o' : Oper), Operand.tmp t ∈ o.op.operands → j ≤ i → ops[i]? = some o' → o'.dst = some t → ¬ listed.getD i false = true := fun t i o' hop hij hoi hdst =>
        after_ok hT hk hd hcl ho' hn hready hij hoi hdst (looks_op hop)
      have H3 : ∀ q b, o.guard = some (q, b) → listed.getD q false = true := fun q b hg => by
        obtain ⟨hqj, og, dg, hog, hdg⟩ := hk.grd j q b o ho' hg
        exact before_ok hT hk hd hcl ho' hn hready hqj hog hdg (looks_guard hg hog hdg)
      cases hev : isEvent (insOf P gl al ((ops.take j).map (·.dst)) o).op with
      | true =>
        obtain ⟨hkj, hS⟩ := event_store hT hk hd hcl ho' hn hready hm hins hev
        refine step_op (Sc := (st k).S) (Sn := (st (j + 1)).S) hcf hT hk hi hr ho' hn H1 H2 H3 (fun v _ _ h => by rw [← hS]; exact h) (fun _ h => by rw [h, hS]) fun φ' a' w' hx' hr' hi' => ?_
        refine ih _ φ' a' w' (j + 1) hcn (by simp [hs]) (hx.trans hx') hcl' ⟨by omega, fun i ins hij hi2 he => ?_, fun i ins hij hi2 he => ?_⟩ (by rw [← hfun]; exact hi') hr'
        · by_cases e : i = j
          · exact (set_iff (by omega)).2 (.inr e)
          · refine (set_iff (by omega)).2 (.inl ?_)
            rcases Nat.lt_or_ge i k with h | h
            · exact hm.old i ins h hi2 he
            · rcases (drawOk_spec hd (show i < j by omega) hjl).it with h' | ⟨x', y', a1, b1, h1', h2', h3, h4, s1, s2, s3, _⟩
              · exact anc_done hcl j o ho' hready i h'
              · rw [hi2] at h3; cases h3; rw [hins] at h4; cases h4
                exact absurd ⟨he, hev⟩ s3
        · intro hl
          rcases (set_iff (by omega)).1 hl with h | h
          · exact hm.new i ins (by omega) hi2 he h
          · omega
      | false =>
        refine step_op (Sc := (st k).S) (Sn := (st k).S) hcf hT hk hi hr ho' hn H1 H2 H3 (fun v hw hv ha => float_store hT hk hd hcl ho' hn hready hf hm hins hev hw hv ha) (fun _ _ => rfl) fun φ' a' w' hx' hr' hi' => ?_
        refine ih _ φ' a' w' k hcn (by simp [hs]) (hx.trans hx') hcl' ⟨hm.le, fun i ins hij hi2 he => ?_, fun i ins hij hi2 he => ?_⟩ (by rw [← hfun]; exact hi') hr'
        · exact (set_iff (by omega)).2 (.inl (hm.old i ins hij hi2 he))
        · intro hl
          rcases (set_iff (by omega)).1 hl with h | h
          · exact hm.new i ins hij hi2 he h
          · subst h; rw [hins] at hi2; cases hi2; rw [hev] at he; cases he
end

/-- a region -/
theorem region_ok {P : Program} {w0 w : World} {gl : List Nat} {N : Nat} {ops : Array Oper} {draw : Bool} {id : Nat} {g g' : Frame} {S S' : Store} {cf : CallF} {n : Nat} {φ : Pc} {a : Act} {Q : Exit → Act → World → Prop} {ex : AExit}
    (hmix : P.follows .mixedOrders = true) (hcf : CallOK P w0 cf) (h : exec cf n (compRegion P gl N ops.toList draw) g S = some (ex, g', S')) (hr : Rel w0 φ S w) (ha : FRel w0 φ gl N g a)
    (hQ : ex = .normal → ∀ φ' a' w', Ext φ φ' → Rel w0 φ' S' w' → FRel w0 φ' gl N g' a' → Q .normal a' w') : (Code.region id ops draw).wp P Q a w := by
  have hsplit : (opsOk N ops.toList && (!draw || drawOk ops.toList (compOps P gl (goodSlots gl ops.toList) [] ops.toList) (if draw then flOf (ancs [] ops.toList) (compOps P gl (goodSlots gl ops.toList) [] ops.toList) else []))) = true ∧
      exec cf n (.region (compOps P gl (goodSlots gl ops.toList) [] ops.toList) (if draw then flOf (ancs [] ops.toList) (compOps P gl (goodSlots gl ops.toList) [] ops.toList) else [])) g S = some (ex, g', S') := by
    have h' : exec cf n (if (opsOk N ops.toList && (!draw || drawOk ops.toList (compOps P gl (goodSlots gl ops.toList) [] ops.toList) (if draw then flOf (ancs [] ops.toList) (compOps P gl (goodSlots gl ops.toList) [] ops.toList) else []))) = true then
      ACode.region (compOps P gl (goodSlots gl ops.toList) [] ops.toList) (if draw then flOf (ancs [] ops.toList) (compOps P gl (goodSlots gl ops.toList) [] ops.toList) else []) else ACode.fail) g S = some (ex, g', S') := h
    by_cases hok : (opsOk N ops.toList && (!draw || drawOk ops.toList (compOps P gl (goodSlots gl ops.toList) [] ops.toList) (if draw then flOf (ancs [] ops.toList) (compOps P gl (goodSlots gl ops.toList) [] ops.toList) else []))) = true
    · rw [if_pos hok] at h'; exact ⟨hok, h'⟩
    · rw [if_neg hok] at h'; simp [exec] at h'
  obtain ⟨fl, hfl0⟩ : ∃ fl, fl = (if draw then flOf (ancs [] ops.toList) (compOps P gl (goodSlots gl ops.toList) [] ops.toList) else []) := ⟨_, rfl⟩
  rw [← hfl0] at hsplit
  obtain ⟨hok, h⟩ := hsplit

  simp only [Bool.and_eq_true, Bool.or_eq_true, Bool.not_eq_true'] at hok
  have hk := opsOk_spec hok.1
  simp only [exec] at h
  split at h
  · rename_i gF SF LF hrun
    split at h
    · rename_i hfl
      cases h
      obtain ⟨st, q1, q2, q3, q4⟩ := trace _ _ _ _ _ hrun
      have hT : Tr cf g S (compOps P gl (goodSlots gl ops.toList) [] ops.toList) st := ⟨q1, q2, q4⟩
      have hlen := compOps_len P gl (goodSlots gl ops.toList) ops.toList []
      rw [hlen] at q3
      simp only [Prod.mk.injEq] at q3
      obtain ⟨rfl, rfl, _⟩ := q3
      have hst0 : (st 0).S = S := by rw [q1]
      cases draw with
      | false =>
        refine wp_region_list ?_
        have hl := region_list (Q := Q) hcf hT hk (fun φ' a' w' hx hr' hf => hQ rfl φ' a' w' hx hr' hf) ops.toList.length 0 φ a w (by omega) (.refl _)
          (by have : (fun i => i < 0) = fun _ => False := funext fun i => propext ⟨fun h => absurd h (Nat.not_lt_zero _), fun h => h.elim⟩
              rw [this]; exact RInv.start ha) (by rw [hst0]; exact hr)
        rw [List.drop_zero, Array.toArray_toList] at hl
        exact hl
      | true =>
        simp only [Bool.true_eq_false, false_or, if_true] at hok hfl
        refine wp_region_any hmix ?_
        have hl := region_any (Q := Q) (φ0 := φ) hcf hT hk hok.2 hfl (fun φ' a' w' hx hr' hf => hQ rfl φ' a' w' hx hr' hf) ops.size (Array.replicate ops.size false) φ a { w with drawn := w.drawn + 1 } 0
          (by simp [cnt, List.countP_replicate]) (by simp) (.refl _) (fun j o hj => (rep_false hj).elim) ⟨Nat.zero_le _, fun i ins hi => by omega, fun i ins _ _ _ hl => rep_false hl⟩
          (by have : (fun i => (Array.replicate ops.size false).getD i false = true) = fun _ => False := funext fun i => propext ⟨fun h => rep_false h, fun h => h.elim⟩
              rw [this]; exact RInv.start ha) (by rw [hst0]; exact hr.grown ⟨rfl, rfl, rfl, Nat.le_refl _, fun _ _ _ => rfl⟩)
        rw [Array.toArray_toList] at hl
        exact hl
    · cases h
  · cases h

end Go.Proofs.Ytmijfhepagobdaa.Avm
