/- A region, in the text's order or in any order. -/
import Derived.Test.YtmijfhepagobdaaA15
set_option linter.unusedVariables false
set_option linter.unusedSimpArgs false
set_option linter.unusedSectionVars false
namespace Go.Proofs.Ytmijfhepagobdaa.Avm
open Go.RowKit

section
variable {P : Program} {w0 w : World} {φ : Pc} {gl al : List Nat} {N : Nat} {ops : List Oper} {g : Frame} {S : Store} {st : Nat → St} {cf : CallF} {Lst : Nat → Prop} {a : Act} {Q : Exit → Act → World → Prop}

theorem ops_arr (j : Nat) : ops.toArray[j]? = ops[j]? := by simp

theorem step_op (hcf : CallOK P w0 cf) (hT : Tr cf g S (compOps P gl al [] ops) st) (hk : Okay N ops) (hi : RInv w0 gl N ops g st Lst φ a) {Sc Sn : Store} (hr : Rel w0 φ Sc w) {j : Nat} {o : Oper} (hj : ops[j]? = some o) (hn : ¬ Lst j)
    (h1 : ∀ (t i : Nat) (o' : Oper), .tmp t ∈ o.op.operands → i < j → ops[i]? = some o' → o'.dst = some t → Lst i) (h2 : ∀ (t i : Nat) (o' : Oper), .tmp t ∈ o.op.operands → j ≤ i → ops[i]? = some o' → o'.dst = some t → ¬ Lst i)
    (hg : ∀ q b, o.guard = some (q, b) → Lst q)
    (hcur : ∀ v, wantA (insOf P gl al ((ops.take j).map (·.dst)) o) (st j).L = some true → (st (j + 1)).L = (st j).L ++ [v] → aop cf (st j).S (ev (st j).g (st j).L) (insOf P gl al ((ops.take j).map (·.dst)) o).op = some (v, (st (j + 1)).S) →
      aop cf Sc (ev (st j).g (st j).L) (insOf P gl al ((ops.take j).map (·.dst)) o).op = some (v, Sn))
    (hskip : wantA (insOf P gl al ((ops.take j).map (·.dst)) o) (st j).L = some false → (st (j + 1)).S = (st j).S → Sn = Sc)
    {K : Act → World → Prop} (hK : ∀ φ' a' w', Ext φ φ' → Rel w0 φ' Sn w' → RInv w0 gl N ops g st (fun i => Lst i ∨ i = j) φ' a' → K a' w') :
    wpOp P ops.toArray Q j K a w := by
  classical
  have hlen := compOps_len P gl al ops []
  have hjl : j < ops.length := (List.getElem?_eq_some_iff.1 hj).1
  have hins := compOps_get P gl al ops [] j o hj
  rw [List.nil_append] at hins
  obtain ⟨i', v, hi', hv, hLv, _, hcase⟩ := hT.val (j := j) (by rw [hlen]; omega)
  rw [hins] at hi'; cases hi'
  unfold wpOp
  simp only [ops_arr, hj]
  rcases hcase with ⟨hw, ha⟩ | ⟨hw, hvu, hS⟩
  · rw [wanted_V hT hk hi hj hg hw]
    simp only [if_true]
    refine .inl ?_
    have ha' := hcur v hw hv ha
    simp only [insOf] at ha'
    cases hc : compOp P (opd gl ((ops.take j).map (·.dst))) o.op with
    | none =>
      rw [hc] at ha'
      simp only [opOf, Option.getD_none, frz, frzN] at ha'
      repeat' split at ha'
      all_goals simp [aop] at ha'
    | some ao =>
      rw [hc] at ha'
      simp only [Option.getD_some] at ha'
      have hc' : compOp P (fun x => if x ∈ o.op.operands then opd gl ((ops.take j).map (·.dst)) x else none) o.op = some ao :=
        (compOp_congr fun x hx => if_pos hx).trans hc
      unfold Oper.wp
      refine Does.upon (frz_ok (ρ := a.eval) hr (fun x ax hx => ?_) (fun f => rfl) hcf hc' ha') fun φ' cv w' hx hr' hV => hK φ' _ w' hx hr' (hi.put hk hj hn hx hv hV)
      split at hx
      · rename_i hm
        exact opd_V hT hk hi hj hx (fun t i o' e => h1 t i o' (e ▸ hm)) (fun t i o' e => h2 t i o' (e ▸ hm))
      · cases hx
  · rw [wanted_V hT hk hi hj hg hw]
    simp only [Bool.false_eq_true, if_false]
    have := hskip hw hS; subst this
    subst hvu
    exact hK φ _ w (.refl _) hr (hi.put hk hj hn (.refl _) hv .undef)

/-- all done -/
theorem RInv.done (hT : Tr cf g S (compOps P gl al [] ops) st) (hk : Okay N ops) (hi : RInv w0 gl N ops g st Lst φ a) (hall : ∀ i, i < ops.length → Lst i) : FRel w0 φ gl N (st ops.length).g a := by
  have hlen := compOps_len P gl al ops []
  refine ⟨hi.size, hi.defers, fun t ht => ?_⟩
  by_cases hex : ∃ (i : Nat) (o' : Oper), ops[i]? = some o' ∧ o'.dst = some t
  · obtain ⟨i, o', ho', hd⟩ := hex
    have hil := (List.getElem?_eq_some_iff.1 ho').1
    obtain ⟨ins, v, hins, hv, _⟩ := hT.val (j := i) (by rw [hlen]; omega)
    have hget := compOps_get P gl al ops [] i o' ho'
    have hdst : (insOf P gl al ([] ++ (ops.take i).map (·.dst)) o').dst = some t := by simp only [insOf, dstOf, hd]; simp [ht]
    rw [hT.slot_new hget hdst hv ops.length hil (by rw [hlen]; omega) fun k q hik hkj hq hqd => ?_]
    · exact hi.val i t o' v (hall i hil) ho' hd hv
    · have hok : ops[k]? = some ops[k] := List.getElem?_eq_getElem (show k < ops.length by omega)
      have hgk := compOps_get P gl al ops [] k _ hok
      rw [hgk] at hq; cases hq
      have : (ops[k]'(by omega)).dst = some t := by
        simp only [insOf, dstOf] at hqd
        split at hqd
        · rename_i d hd'
          split at hqd
          · cases hqd; exact hd'
          · cases hqd
        · cases hqd
      have := hk.uniq i k t o' _ ho' hok hd this
      omega
  · rw [hT.slot_old ops.length (by rw [hlen]; omega) fun i q hij hq hqd => ?_]
    · exact hi.slot t ht fun i o' hl ho' hd => hex ⟨i, o', ho', hd⟩
    · have hok : ops[i]? = some ops[i] := List.getElem?_eq_getElem (show i < ops.length by omega)
      have hgk := compOps_get P gl al ops [] i _ hok
      rw [hgk] at hq; cases hq
      refine hex ⟨i, _, hok, ?_⟩
      simp only [insOf, dstOf] at hqd
      split at hqd
      · rename_i d hd'
        split at hqd
        · cases hqd; exact hd'
        · cases hqd
      · cases hqd

theorem RInv.start (ha : FRel w0 φ gl N g a) : RInv w0 gl N ops g st (fun _ => False) φ a :=
  ⟨ha.size, ha.defers, fun _ _ _ _ h => h.elim, fun t ht _ => ha.slot t ht⟩

/-- in the text's order -/
theorem region_list (hcf : CallOK P w0 cf) (hT : Tr cf g S (compOps P gl al [] ops) st) (hk : Okay N ops)
    (hQ : ∀ φ' a' w', Ext φ φ' → Rel w0 φ' (st ops.length).S w' → FRel w0 φ' gl N (st ops.length).g a' → Q .normal a' w') :
    ∀ (m k : Nat) (φ' : Pc) (a : Act) (w : World), k + m = ops.length → Ext φ φ' → RInv w0 gl N ops g st (fun i => i < k) φ' a → Rel w0 φ' (st k).S w → wpList P ops.toArray Q (ops.drop k) a w := by
  intro m
  induction m with
  | zero =>
    intro k φ' a w hkm hx hi hr
    have : k = ops.length := by omega
    subst this
    rw [List.drop_length]
    exact hQ φ' a w hx hr (hi.done hT hk fun i h => h)
  | succ m ih =>
    intro k φ' a w hkm hx hi hr
    have hkl : k < ops.length := by omega
    have hj : ops[k]? = some ops[k] := List.getElem?_eq_getElem hkl
    rw [List.drop_eq_getElem_cons hkl]
    have hstep := step_op (Q := Q) hcf hT hk hi hr (Sn := (st (k + 1)).S) hj (by omega) (fun t i o' _ hi' _ _ => hi') (fun t i o' _ hi' _ _ => by omega) (fun q b hg => (hk.grd k q b _ hj hg).1)
      (fun v _ _ h => h) (fun _ h => h) (K := wpList P ops.toArray Q (ops.drop (k + 1))) fun φ'' a' w' hx' hr' hi' => by
        have : (fun i => i < k ∨ i = k) = fun i => i < k + 1 := funext fun i => propext (by omega)
        rw [this] at hi'
        exact ih (k + 1) φ'' a' w' (by omega) (hx.trans hx') hi' hr'
    unfold wpOp at hstep
    simp only [ops_arr, hj] at hstep
    exact hstep

end
end Go.Proofs.Ytmijfhepagobdaa.Avm
