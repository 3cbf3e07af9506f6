/- More operations that make no memory. -/
import Derived.Test.YtmijfhepagobdaaA5
set_option linter.unusedVariables false
set_option linter.unusedSimpArgs false
set_option linter.unusedSectionVars false
namespace Go.Proofs.Ytmijfhepagobdaa.Avm
open Go.RowKit

section types
variable {P : Program} {w : World} {t : TypeId}
theorem run_size {n : Nat} (h : szOf P t = some n) : (sizeOf t).run P w = .ok n w ∧ 0 < n := by
  unfold szOf at h
  obtain ⟨i, hi, h⟩ := Option.bind_eq_some_iff.1 h
  split at h
  · cases h; rename_i hp; exact ⟨by simp [sizeOf, typeInfo, hi], hp⟩
  · cases h
theorem run_agg {b : Bool} (h : isAggB P t = some b) : (isAgg t).run P w = .ok b w := by
  unfold isAggB at h
  split at h
  · rename_i fs he; cases h; simp [isAgg, run_underlying he]
  · rename_i l e he; cases h; simp [isAgg, run_underlying he]
  · rename_i d h1 h2 he
    cases h
    simp only [isAgg, Sem.run_bind, run_underlying he, Result.andThen_ok]
    cases d <;> first | rfl | exact absurd he (h1 _) | exact absurd he (h2 _ _)
  · cases h
theorem constS_V {w0 : World} {φ : Pc} {v : Value} {a : AV} (h : constS v = some a) : V w0 φ a v ∧ v.oneCell' = true := by
  unfold constS at h
  split at h <;> cases h
  all_goals first
    | exact ⟨.int _ _, rfl⟩ | exact ⟨.bool _, rfl⟩ | exact ⟨.str _, rfl⟩ | exact ⟨.nilP, rfl⟩ | exact ⟨.nilS, rfl⟩ | exact ⟨.nilM, rfl⟩ | exact ⟨.nilC, rfl⟩ | exact ⟨.nilF, rfl⟩ | exact ⟨.nilI, rfl⟩
theorem constSs_V {w0 : World} {φ : Pc} : ∀ {vs : List Value} {as : List AV}, constSs vs = some as → Vc w0 φ as vs
  | [], as, h => by cases h; exact .nil
  | v :: vs, as, h => by
    simp only [constSs, Option.bind_eq_some_iff, Option.map_eq_some_iff] at h
    obtain ⟨a, h1, as', h2, rfl⟩ := h
    exact .cons (constS_V h1).1 (constS_V (w0 := w0) (φ := φ) h1).2 (constSs_V h2)
theorem constAV_V {w0 : World} {φ : Pc} {v : Value} {a : AV} (h : constAV v = some a) : V w0 φ a v := by
  unfold constAV at h
  split at h
  · obtain ⟨as, h1, rfl⟩ := Option.map_eq_some_iff.1 h
    have := constSs_V (w0 := w0) (φ := φ) h1
    exact V.mkAgg this
  · exact (constS_V h).1
theorem run_zero {cs : List AV} (h : zeroCells P t = some cs) : ∃ z, (zeroValue t).run P w = .ok z w ∧ constSs z.cells.toList = some cs := by
  unfold zeroCells at h
  simp only [Option.bind_eq_some_iff] at h
  obtain ⟨i, hi, z, hz, hc⟩ := h
  exact ⟨z, by simp [zeroValue, typeInfo, hi, hz], hc⟩
theorem run_zeroAV {a : AV} (h : zeroAV P t = some a) : ∃ z, (zeroValue t).run P w = .ok z w ∧ constAV z = some a := by
  unfold zeroAV at h
  simp only [Option.bind_eq_some_iff] at h
  obtain ⟨i, hi, z, hz, hc⟩ := h
  exact ⟨z, by simp [zeroValue, typeInfo, hi, hz], hc⟩
end types

theorem add_add (a : Addr) (m j : Nat) : (a.add m).add j = a.add (m + j) := by
  unfold Addr.add
  by_cases hm : m = 0
  · subst hm; simp
  · by_cases hj : j = 0
    · subst hj; simp
    · simp [hm, hj, Nat.add_assoc]

section
variable {P : Program} {w0 w : World} {φ : Pc} {S S' : Store} {ev : AX → AV} {ρ : Operand → Value} {tr : Operand → Option AX} {cf : CallF} {o : Oper} {v : AV}
  (hr : Rel w0 φ S w) (hρ : ∀ x ax, tr x = some ax → V w0 φ (ev ax) (ρ x))

theorem Rel.cell0 (hr : Rel w0 φ S w) {a : Addr} {u : Value} (h : φ.fz a = some u) : w.cell? a = some u := hr.fz a u h

/-- n cells under an address -/
theorem loadable_agg (hr : Rel w0 φ S w) {n : Nat} {x v : AV} {cx : Value} (hx : V w0 φ x cx) (h : loadA S true n x = some v) :
    ∃ a cvs cs, cx = .pointer (some a) ∧ v = .agg cs ∧ cvs.length = n ∧ Vc w0 φ cs cvs ∧ ∀ (j : Nat) (u : Value), cvs[j]? = some u → w.cell? (a.add j) = some u := by
  unfold loadA at h
  split at h
  · rename_i id off
    obtain ⟨p, hp, rfl⟩ := hx.ptr_inv
    split at h
    · rename_i cs hs
      rw [if_pos rfl] at h
      split at h
      · rename_i hn
        cases h
        obtain ⟨cvs, h1, h2, h3⟩ := hr.cells hp hs off n hn
        exact ⟨_, cvs, _, rfl, rfl, h2, h1, fun j u hu => by rw [add_none]; exact h3 j u hu⟩
      · cases h
    · cases h
  · rename_i cs
    obtain ⟨a, cvs, rfl, h1, h2⟩ := hx.cptr_inv
    rw [if_pos rfl] at h
    split at h
    · rename_i hn
      cases h
      refine ⟨a, cvs.take n, _, rfl, rfl, by have := h1.1.1; simp; omega, h1.take n, fun j u hu => hr.cell0 (h2 j u ?_)⟩
      rw [List.getElem?_take] at hu; split at hu
      · exact hu
      · cases hu
    · cases h
  · cases h

theorem loadable_one (hr : Rel w0 φ S w) {n : Nat} {x v : AV} {cx : Value} (hx : V w0 φ x cx) (h : loadA S false n x = some v) :
    ∃ a cv, cx = .pointer (some a) ∧ V w0 φ v cv ∧ w.cell? a = some cv := by
  unfold loadA at h
  split at h
  · rename_i id off
    obtain ⟨p, hp, rfl⟩ := hx.ptr_inv
    split at h
    · rename_i cs hs
      rw [if_neg (by simp)] at h
      have hlt := (List.getElem?_eq_some_iff.1 h).1
      obtain ⟨cvs, h1, h2, h3⟩ := hr.cells hp hs off 1 (by omega)
      have hv : ((cs.drop off).take 1)[0]? = some v := by rw [List.getElem?_take, if_pos (by omega), List.getElem?_drop]; simpa using h
      obtain ⟨cv, hc, hV⟩ := h1.1.get hv
      exact ⟨_, cv, rfl, hV, by simpa using h3 0 cv hc⟩
    · cases h
  · rename_i cs
    obtain ⟨a, cvs, rfl, h1, h2⟩ := hx.cptr_inv
    rw [if_neg (by simp)] at h
    obtain ⟨cv, hc, hV⟩ := h1.1.get h
    exact ⟨a, cv, rfl, hV, hr.cell0 (by simpa [Addr.add] using h2 0 cv hc)⟩
  · cases h

include hr hρ

theorem ok_load {t : TypeId} {x : Operand} (ho : o.op = .load t x) {ao : AOp} (hc : compOp P tr o.op = some ao) (ha : aop cf S ev ao = some (v, S')) : Gives w0 φ S' v ((execOp ρ o).run P w) := by
  rw [ho] at hc
  simp only [compOp, Option.bind_eq_some_iff, Option.map_eq_some_iff] at hc
  obtain ⟨b, hb, n, hn, ax, hx, rfl⟩ := hc
  simp only [aop, Option.map_eq_some_iff, Prod.mk.injEq] at ha
  obtain ⟨v', hl, rfl, rfl⟩ := ha
  have hs := run_size (w := w) hn
  have hg := run_agg (w := w) hb
  cases b with
  | true =>
    obtain ⟨a, cvs, cs, e, rfl, h1, h2, h3⟩ := loadable_agg hr (hρ _ _ hx) hl
    have := run_loadCells_list (P := P) w a cvs h3
    rw [h1] at this
    exact gives_value hr (by simp [execOp, ho, Instr.loadAt, Instr.sureAddr, e, loadVar, hg, hs.1, this]) (V.mkAgg h2)
  | false =>
    obtain ⟨a, cv, e, h2, h3⟩ := loadable_one hr (hρ _ _ hx) hl
    exact gives_value hr (by simp [execOp, ho, Instr.loadAt, Instr.sureAddr, e, loadVar, hg, h3]) h2

theorem ok_faddr {t : TypeId} {x : Operand} {f : Nat} (ho : o.op = .fieldAddr t x f) {ao : AOp} (hc : compOp P tr o.op = some ao) (ha : aop cf S ev ao = some (v, S')) : Gives w0 φ S' v ((execOp ρ o).run P w) := by
  rw [ho] at hc
  simp only [compOp] at hc
  split at hc
  · rename_i fs hu
    simp only [Option.bind_eq_some_iff, Option.map_eq_some_iff] at hc
    obtain ⟨fd, hf, n, hn, ax, hx, rfl⟩ := hc
    have hs := run_size (w := w) hn
    have k := hρ _ _ hx
    have run : ∀ a, ρ x = .pointer (some a) → (execOp ρ o).run P w = .ok (.value (.pointer (some (a.add fd.offset)))) w := fun a e => by
      have : ¬ n = 0 := by omega
      simp [execOp, ho, Instr.fieldAt, run_underlying hu, hf, Instr.sureAddr, e, fieldPlace, hs.1, this]
    simp only [aop] at ha
    split at ha
    · rename_i id off he
      rw [he] at k; obtain ⟨p, hp, e⟩ := k.ptr_inv
      cases ha
      exact gives_value hr (run _ e) (by rw [add_none, Nat.add_assoc]; exact .ptr hp)
    · rename_i cs he
      rw [he] at k; obtain ⟨a, cvs, e, h1, h2⟩ := k.cptr_inv
      cases ha
      refine gives_value hr (run _ e) (.mkCptr (h1.drop fd.offset) fun j u hu => ?_)
      rw [add_add]; rw [List.getElem?_drop] at hu; exact h2 _ _ hu
    · cases ha
  · cases hc

theorem run_part {t : TypeId} {cs : List AV} {cvs : List Value} {off n : Nat} {b : Bool} (hb : isAggB P t = some b) (hn : szOf P t = some n) (h : Vc w0 φ cs cvs) (hl : off + n ≤ cs.length)
    {v : AV} (hv : (if b then some (AV.agg ((cs.drop off).take n)) else cs[off]?) = some v) : ∃ cv, (part t cvs.toArray off).run P w = .ok cv w ∧ V w0 φ v cv := by
  have hs := run_size (w := w) hn
  have hg := run_agg (w := w) hb
  cases b with
  | true =>
    simp only [if_true, Option.some.injEq] at hv
    subst hv
    refine ⟨.agg ((cvs.drop off).take n).toArray, ?_, .mkAgg ((h.drop off).take n)⟩
    simp only [part, Sem.run_bind, hg, hs.1, Result.andThen_ok, if_true, Sem.run_pure]
    congr 2
    rw [List.take_drop]
    rw [List.extract_toArray, List.extract_eq_drop_take']
  | false =>
    simp only [Bool.false_eq_true, if_false] at hv
    obtain ⟨cv, hc, hV⟩ := h.1.get hv
    exact ⟨cv, by simp [part, hg, hc], hV⟩

theorem ok_field {t : TypeId} {x : Operand} {f : Nat} (ho : o.op = .field t x f) {ao : AOp} (hc : compOp P tr o.op = some ao) (ha : aop cf S ev ao = some (v, S')) : Gives w0 φ S' v ((execOp ρ o).run P w) := by
  rw [ho] at hc
  simp only [compOp] at hc
  split at hc
  · rename_i fs hu
    simp only [Option.bind_eq_some_iff, Option.map_eq_some_iff] at hc
    obtain ⟨fd, hf, b, hb, n, hn, ax, hx, rfl⟩ := hc
    have k := hρ _ _ hx
    simp only [aop] at ha
    split at ha
    · rename_i cs he
      rw [he] at k; obtain ⟨cvs, e, h1⟩ := k.agg_inv
      split at ha
      · rename_i hl
        have : ∃ v', (if b then some (AV.agg ((cs.drop fd.offset).take n)) else cs[fd.offset]?) = some v' ∧ v = v' ∧ S' = S := by
          cases b with
          | true => simp only [if_true] at ha ⊢; cases ha; exact ⟨_, rfl, rfl, rfl⟩
          | false => simp only [Bool.false_eq_true, if_false] at ha ⊢; obtain ⟨v', hv, hh⟩ := Option.map_eq_some_iff.1 ha; cases hh; exact ⟨_, hv, rfl, rfl⟩
        obtain ⟨v', hv, rfl, rfl⟩ := this
        obtain ⟨cv, hp, hV⟩ := run_part (P := P) hr hρ hb hn h1 hl hv
        exact gives_value hr (by simp [execOp, ho, Instr.field, run_underlying hu, hf, e, asAgg, hp]) hV
      · cases ha
    · cases ha
  · cases hc

end
end Go.Proofs.Ytmijfhepagobdaa.Avm
