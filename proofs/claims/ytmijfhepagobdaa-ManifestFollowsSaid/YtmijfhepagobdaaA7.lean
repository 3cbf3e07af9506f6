/- Still more operations that make no memory. -/
import Derived.Test.YtmijfhepagobdaaA6
import Derived.Laws.StructEq
set_option linter.unusedVariables false
set_option linter.unusedSimpArgs false
set_option linter.unusedSectionVars false
namespace Go.Proofs.Ytmijfhepagobdaa.Avm
open Go.RowKit

theorem equal_bool {P : Program} {t : TypeId} {w : World} (hu : P.underlying t = some .bool) (a b : Bool) : (Op.equal t (.bool a) (.bool b)).run P w = .ok (a == b) w := by
  have : ∀ d, (Op.equalIn (d + 1) t (.bool a) (.bool b)).run P w = .ok (a == b) w := fun d => by simp [Op.equalIn, run_underlying hu]
  exact this 9999
theorem bin_eql_bool (t : TypeId) (a b : Bool) : binOp .eql t (.bool a) (.bool b) = (do pure (.bool (← Op.equal t (.bool a) (.bool b)))) := rfl
theorem bin_neq_bool (t : TypeId) (a b : Bool) : binOp .neq t (.bool a) (.bool b) = (do pure (.bool (!(← Op.equal t (.bool a) (.bool b))))) := rfl
theorem isNil_true {cls : Nat} {v : AV} (h : isNil cls v = some true) : (cls = 0 ∧ v = .nilP) ∨ (cls = 1 ∧ v = .nilS) ∨ (cls = 2 ∧ v = .nilM) ∨ (cls = 3 ∧ v = .nilC) ∨ (cls = 4 ∧ v = .nilF) := by
  unfold isNil at h
  split at h <;> simp_all
theorem class_inv {P : Program} {t : TypeId} {cls : Nat} (hu : nilClass P t = some cls) :
    (cls = 0 ∧ ∃ e, P.underlying t = some (.pointer e)) ∨ (cls = 1 ∧ ∃ e, P.underlying t = some (.slice e)) ∨ (cls = 2 ∧ ∃ k e, P.underlying t = some (.map k e)) ∨ (cls = 3 ∧ ∃ d e, P.underlying t = some (.chan d e)) ∨ (cls = 4 ∧ ∃ a b c, P.underlying t = some (.func a b c)) := by
  unfold nilClass at hu
  split at hu <;> simp_all
theorem key_nil {P : Program} {t : TypeId} {cls : Nat} {w0 w : World} {φ : Pc} (hu : nilClass P t = some cls) {vx vy : AV} {rx ry : Value} {a : Bool} (h1 : isNil cls vx = some a) (h2 : isNil cls vy = some true) (kx : V w0 φ vx rx) (ky : V w0 φ vy ry) :
    (∀ d, (Op.equalIn (d + 1) t rx ry).run P w = .ok a w) ∧ (∀ cs, rx ≠ .agg cs) ∧ rx ≠ .nilIface ∧ binOp .eql t rx ry = (do pure (.bool (← Op.equal t rx ry))) ∧ binOp .neq t rx ry = (do pure (.bool (!(← Op.equal t rx ry)))) := by
  rcases isNil_true h2 with ⟨rfl, rfl⟩ | ⟨rfl, rfl⟩ | ⟨rfl, rfl⟩ | ⟨rfl, rfl⟩ | ⟨rfl, rfl⟩ <;> cases ky <;> rcases class_inv hu with ⟨h0, h⟩ | ⟨h0, h⟩ | ⟨h0, h⟩ | ⟨h0, h⟩ | ⟨h0, h⟩ <;> try (exact absurd h0 (by decide))
  · obtain ⟨e, hu⟩ := h
    cases vx <;> simp only [isNil, Option.some.injEq, reduceCtorEq] at h1 <;> first | (subst h1; cases kx; exact ⟨fun d => by simp [Op.equalIn, run_underlying hu], by simp, by simp, rfl, rfl⟩) | (split at h1 <;> first | (cases h1; done) | (rename_i hne; simp only [Option.some.injEq] at h1; subst h1; cases kx <;> first | exact absurd rfl hne | exact ⟨fun d => by simp [Op.equalIn, run_underlying hu], by simp, by simp, rfl, rfl⟩))
  · obtain ⟨e, hu⟩ := h
    cases vx <;> simp only [isNil, Option.some.injEq, reduceCtorEq] at h1 <;> first | (subst h1; cases kx; exact ⟨fun d => by simp [Op.equalIn, run_underlying hu], by simp, by simp, rfl, rfl⟩) | (split at h1 <;> first | (cases h1; done) | (rename_i hne; simp only [Option.some.injEq] at h1; subst h1; cases kx <;> first | exact absurd rfl hne | exact ⟨fun d => by simp [Op.equalIn, run_underlying hu], by simp, by simp, rfl, rfl⟩))
  · obtain ⟨k, e, hu⟩ := h
    cases vx <;> simp only [isNil, Option.some.injEq, reduceCtorEq] at h1 <;> first | (subst h1; cases kx; exact ⟨fun d => by simp [Op.equalIn, run_underlying hu], by simp, by simp, rfl, rfl⟩) | (split at h1 <;> first | (cases h1; done) | (rename_i hne; simp only [Option.some.injEq] at h1; subst h1; cases kx <;> first | exact absurd rfl hne | exact ⟨fun d => by simp [Op.equalIn, run_underlying hu], by simp, by simp, rfl, rfl⟩))
  · obtain ⟨d, e, hu⟩ := h
    cases vx <;> simp only [isNil, Option.some.injEq, reduceCtorEq] at h1 <;> first | (subst h1; cases kx; exact ⟨fun d => by simp [Op.equalIn, run_underlying hu], by simp, by simp, rfl, rfl⟩) | (split at h1 <;> first | (cases h1; done) | (rename_i hne; simp only [Option.some.injEq] at h1; subst h1; cases kx <;> first | exact absurd rfl hne | exact ⟨fun d => by simp [Op.equalIn, run_underlying hu], by simp, by simp, rfl, rfl⟩))
  · obtain ⟨k, e, c, hu⟩ := h
    cases vx <;> simp only [isNil, Option.some.injEq, reduceCtorEq] at h1 <;> first | (subst h1; cases kx; exact ⟨fun d => by simp [Op.equalIn, run_underlying hu], by simp, by simp, rfl, rfl⟩) | (split at h1 <;> first | (cases h1; done) | (rename_i hne; simp only [Option.some.injEq] at h1; subst h1; cases kx <;> first | exact absurd rfl hne | exact ⟨fun d => by simp [Op.equalIn, run_underlying hu], by simp, by simp, rfl, rfl⟩))

section
variable {P : Program} {w0 w : World} {φ : Pc} {S S' : Store} {ev : AX → AV} {ρ : Operand → Value} {tr : Operand → Option AX} {cf : CallF} {o : Oper} {v : AV}
  (hr : Rel w0 φ S w) (hρ : ∀ x ax, tr x = some ax → V w0 φ (ev ax) (ρ x))
include hr hρ

theorem ok_una {op : UnOp} {t : TypeId} {x : Operand} (ho : o.op = .unOp op t x) {ao : AOp} (hc : compOp P tr o.op = some ao) (ha : aop cf S ev ao = some (v, S')) : Gives w0 φ S' v ((execOp ρ o).run P w) := by
  rw [ho] at hc
  obtain ⟨ax, hx, rfl⟩ := Option.map_eq_some_iff.1 hc
  have k := hρ _ _ hx
  simp only [aop, Option.map_eq_some_iff, Prod.mk.injEq] at ha
  obtain ⟨v', h, rfl, rfl⟩ := ha
  unfold auna at h
  split at h
  · rename_i i n he
    rw [he] at k; have e := k.int_inv
    cases op <;> simp only [Option.some.injEq, reduceCtorEq] at h
    subst h
    exact gives_value hr (by simp [execOp, ho, e, Op.unary, Op.intArith]) (.int _ _)
  · rename_i b he
    rw [he] at k; have e := k.bool_inv
    cases op <;> simp only [Option.some.injEq, reduceCtorEq] at h
    subst h
    exact gives_value hr (by simp [execOp, ho, e, Op.unary]) (.bool _)
  · cases h

theorem ok_mkfn {fn : Fn} {first cap : Array Operand} (ho : o.op = .makeFunc fn first cap) {ao : AOp} (hc : compOp P tr o.op = some ao) (ha : aop cf S ev ao = some (v, S'))
    (hevs : ∀ xs as, trs tr xs = some as → Vs w0 φ (evs ev as) (xs.map ρ)) : Gives w0 φ S' v ((execOp ρ o).run P w) := by
  rw [ho] at hc
  cases fn <;> simp only [compOp, reduceCtorEq] at hc
  split at hc
  · rename_i f hz
    obtain ⟨as, h1, rfl⟩ := Option.map_eq_some_iff.1 hc
    simp only [aop, Option.some.injEq, Prod.mk.injEq] at ha
    obtain ⟨rfl, rfl⟩ := ha
    have k := hevs _ _ h1
    have hf : first = #[] := Array.eq_empty_of_size_eq_zero hz
    refine gives_value hr (cv := .func (.func f) #[] (cap.toList.map ρ).toArray) ?_ (.fn k.1 k.2)
    simp [execOp, ho, Instr.makeFunc, hf]
    rw [← Array.toList_map, Array.toArray_toList]
  · cases hc

theorem ok_ext {x : Operand} {i : Nat} (ho : o.op = .extract x i) {ao : AOp} (hc : compOp P tr o.op = some ao) (ha : aop cf S ev ao = some (v, S')) : Gives w0 φ S' v ((execOp ρ o).run P w) := by
  rw [ho] at hc
  obtain ⟨ax, hx, rfl⟩ := Option.map_eq_some_iff.1 hc
  have k := hρ _ _ hx
  simp only [aop] at ha
  split at ha
  · rename_i vs he
    rw [he] at k; obtain ⟨cvs, e, h1⟩ := k.tup_inv
    obtain ⟨v', hv, hh⟩ := Option.map_eq_some_iff.1 ha; cases hh
    obtain ⟨cv, hcv, hV⟩ := h1.get hv
    exact gives_value hr (by simp [execOp, ho, Instr.extract, e, hcv]) hV
  · cases ha

theorem ok_sidx {t : TypeId} {x i : Operand} (ho : o.op = .index t x i) {ao : AOp} (hc : compOp P tr o.op = some ao) (ha : aop cf S ev ao = some (v, S')) : Gives w0 φ S' v ((execOp ρ o).run P w) := by
  rw [ho] at hc
  simp only [compOp] at hc
  split at hc
  · rename_i hu
    simp only [Option.bind_eq_some_iff, Option.map_eq_some_iff] at hc
    obtain ⟨ax, hx, ai, hi, rfl⟩ := hc
    have kx := hρ _ _ hx; have ki := hρ _ _ hi
    simp only [aop] at ha
    split at ha
    · rename_i s k j he1 he2
      rw [he1] at kx; rw [he2] at ki
      have e1 := kx.str_inv; have e2 := ki.int_inv
      split at ha
      · rename_i h0
        obtain ⟨c, hs, hh⟩ := Option.map_eq_some_iff.1 ha; cases hh
        refine gives_value hr (cv := .int .u8 c.toNat) ?_ (.int _ _)
        have : (⟨s.toArray⟩ : ByteArray)[j.toNat]? = some c := by
          have hlt := (List.getElem?_eq_some_iff.1 hs).1
          rw [getElem?_pos _ _ (by simpa [ByteArray.size] using hlt)]
          have := (List.getElem?_eq_some_iff.1 hs).2
          simpa [ByteArray.getElem_eq_getElem_data] using this
        simp [execOp, ho, Instr.index, e1, e2, asIntOf, run_underlying hu, h0, this]
      · cases ha
    · cases ha
  · cases hc

theorem ok_iaddr {t : TypeId} {x i : Operand} (ho : o.op = .indexAddr t x i) {ao : AOp} (hc : compOp P tr o.op = some ao) (ha : aop cf S ev ao = some (v, S')) : Gives w0 φ S' v ((execOp ρ o).run P w) := by
  rw [ho] at hc
  simp only [compOp] at hc
  split at hc
  · rename_i e hu
    simp only [Option.bind_eq_some_iff, Option.map_eq_some_iff] at hc
    obtain ⟨sz, hz, ax, hx, ai, hi, rfl⟩ := hc
    have hs := run_size (w := w) hz
    have kx := hρ _ _ hx; have ki := hρ _ _ hi
    have run : ∀ a n c k j, ρ x = .slice (some a) n c → ρ i = .int k j → 0 ≤ j → j < n → (execOp ρ o).run P w = .ok (.value (.pointer (some (a.add (j.toNat * sz))))) w := fun a n c k j e1 e2 h0 h1 => by
      simp [execOp, ho, Instr.indexAt, e1, e2, asIntOf, run_underlying hu, h0, h1, hs.1]
    simp only [aop] at ha
    split at ha
    · rename_i cs n k j he1 he2
      rw [he1] at kx; rw [he2] at ki
      have e2 := ki.int_inv
      split at ha
      · rename_i hj
        cases ha
        obtain ⟨a, c, cvs, e1, h1, h2, h3⟩ | ⟨_, h0, _⟩ := kx.csl_inv
        rotate_left
        · omega
        refine gives_value hr (run a n c k j e1 e2 hj.1 hj.2) (.mkCptr (h1.drop _) fun m u hm => ?_)
        rw [add_add]; rw [List.getElem?_drop] at hm; exact h3 _ _ hm
      · cases ha
    · rename_i id off n sz' k j he1 he2
      rw [he1] at kx; rw [he2] at ki
      obtain ⟨a, c, p, e1, hp, h1, h2, h3, h4, h5, h6⟩ := kx.sl_inv; have e2 := ki.int_inv
      split at ha
      · rename_i hj
        cases ha
        obtain ⟨hj0, hj1, rfl⟩ := hj
        have hcp : 0 < c := by omega
        refine gives_value hr (run a n c k j e1 e2 hj0 hj1) ?_
        rw [h1 hcp, add_none, Nat.add_assoc]; exact .ptr hp
      · cases ha
    · rename_i id off n c sz' k j he1 he2
      rw [he1] at kx; rw [he2] at ki
      obtain ⟨a, p, e1, hp, h1, h2, h4, h5⟩ := kx.slc_inv; have e2 := ki.int_inv
      split at ha
      · rename_i hj
        cases ha
        obtain ⟨hj0, hj1, rfl⟩ := hj
        have hcp : 0 < c := by omega
        refine gives_value hr (run a n c k j e1 e2 hj0 hj1) ?_
        rw [h1 hcp, add_none, Nat.add_assoc]; exact .ptr hp
      · cases ha
    · cases ha
  · rename_i len e hu
    simp only [Option.bind_eq_some_iff, Option.map_eq_some_iff] at hc
    obtain ⟨sz, hz, ax, hx, ai, hi, rfl⟩ := hc
    have hs := run_size (w := w) hz
    have kx := hρ _ _ hx; have ki := hρ _ _ hi
    have run : ∀ a k j, ρ x = .pointer (some a) → ρ i = .int k j → 0 ≤ j → j < len → (execOp ρ o).run P w = .ok (.value (.pointer (some (a.add (j.toNat * sz))))) w := fun a k j e1 e2 h0 h1 => by
      simp [execOp, ho, Instr.indexAt, e1, e2, asIntOf, run_underlying hu, h0, h1, hs.1, Instr.sureAddr]
    simp only [aop] at ha
    split at ha
    · rename_i cs k j he1 he2
      rw [he1] at kx; rw [he2] at ki
      obtain ⟨a, cvs, e1, h1, h3⟩ := kx.cptr_inv; have e2 := ki.int_inv
      split at ha
      · rename_i hj
        cases ha
        refine gives_value hr (run a k j e1 e2 hj.1 hj.2) (.mkCptr (h1.drop _) fun m u hm => ?_)
        rw [add_add]; rw [List.getElem?_drop] at hm; exact h3 _ _ hm
      · cases ha
    · rename_i id off k j he1 he2
      rw [he1] at kx; rw [he2] at ki
      obtain ⟨p, hp, e1⟩ := kx.ptr_inv; have e2 := ki.int_inv
      split at ha
      · rename_i hj
        cases ha
        refine gives_value hr (run _ k j e1 e2 hj.1 hj.2) ?_
        rw [add_none, Nat.add_assoc]; exact .ptr hp
      · cases ha
    · cases ha
  · cases hc

theorem ok_eqb {op : BinOp} {t u : TypeId} {x y : Operand} (ho : o.op = .binOp op t x y u) {neg : Bool} {ax ay : AX} (hop : op = if neg then .neq else .eql) (hu : P.underlying t = some .bool) (hx : tr x = some ax) (hy : tr y = some ay)
    (ha : aop cf S ev (.eqb neg ax ay) = some (v, S')) : Gives w0 φ S' v ((execOp ρ o).run P w) := by
  have kx := hρ _ _ hx; have ky := hρ _ _ hy
  simp only [aop] at ha
  split at ha
  · rename_i a b he1 he2
    rw [he1] at kx; rw [he2] at ky
    have e1 := kx.bool_inv; have e2 := ky.bool_inv
    cases ha
    have hg := guard_ok (P := P) (w := w) op t x y (ρ x) (ρ y) (by rw [e1]; simp) (by rw [e1]; simp)
    rw [e1, e2] at hg
    refine gives_value hr (cv := .bool (if neg then a != b else a == b)) ?_ (.bool _)
    subst hop
    have he := equal_bool (w := w) hu a b
    cases neg
    · simp only [Bool.false_eq_true, if_false] at ho hg ⊢
      simp [execOp, ho, e1, e2, hg, bin_eql_bool, he]
    · simp only [if_true] at ho hg ⊢
      simp [execOp, ho, e1, e2, hg, bin_neq_bool, he]; cases a <;> cases b <;> rfl
  · cases ha

theorem ok_eqn {op : BinOp} {t u : TypeId} {x y : Operand} (ho : o.op = .binOp op t x y u) {neg : Bool} {cls : Nat} {ax ay : AX} (hop : op = if neg then .neq else .eql) (hu : nilClass P t = some cls) (hx : tr x = some ax) (hy : tr y = some ay)
    (ha : aop cf S ev (.eqn neg cls ax ay) = some (v, S')) : Gives w0 φ S' v ((execOp ρ o).run P w) := by
  have kx := hρ _ _ hx; have ky := hρ _ _ hy
  simp only [aop] at ha
  split at ha
  · rename_i a he1 he2
    cases ha
    have key := key_nil (w := w) hu he1 he2 kx ky
    have he : (Op.equal t (ρ x) (ρ y)).run P w = .ok a w := key.1 9999
    have hg := guard_ok (P := P) (w := w) op t x y (ρ x) (ρ y) key.2.1 key.2.2.1
    refine gives_value hr (cv := .bool (if neg then !a else a)) ?_ (.bool _)
    subst hop
    cases neg
    · simp only [Bool.false_eq_true, if_false] at ho hg ⊢
      simp [execOp, ho, hg, key.2.2.2.1, he]
    · simp only [if_true] at ho hg ⊢
      simp [execOp, ho, hg, key.2.2.2.2, he]
  · cases ha

end
end Go.Proofs.Ytmijfhepagobdaa.Avm
