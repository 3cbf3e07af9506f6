/- Arrays of two as arguments. -/
import Derived.Test.YtobbiafkmgfioaaA29
set_option linter.unusedVariables false
namespace Go.Proofs.Ytobbiafkmgfioaa.Avm
open Go.ChangeShapes Go.WideShapes Go.ChangeAt Go.RowKit
section
variable {P : Program} {t e : TypeId} {α β : Type}
theorem Opens.array2 {c : α → List AV} {Q : α → Prop} (ht : P.underlying t = some (.array 2 e)) (hz : P.cellsOf t = P.cellsOf e + P.cellsOf e) (h : Opens P e c Q) : Opens P t (fun p : α × α => c p.1 ++ c p.2) fun p => Q p.1 ∧ Q p.2 := fun H en W held fuel cs x hx => by
  obtain ⟨xs, m, _, _, hl, hxs, hf⟩ := DataW.trod_array ht hx
  have f0 := hf 0 (by omega)
  have f1 := hf 1 (by omega)
  rw [List.getElem?_eq_getElem (by omega)] at f0 f1
  obtain ⟨a, qa, va⟩ := h H en W held m _ _ f0
  obtain ⟨b, qb, vb⟩ := h H en W held m _ _ f1
  refine ⟨(a, b), ⟨qa, qb⟩, ?_⟩
  rw [Nat.zero_mul, List.drop_zero] at va
  rw [Nat.one_mul, List.take_of_length_le (by rw [List.length_drop]; omega)] at vb
  have := va.append vb
  rw [List.take_append_drop] at this
  exact this
theorem Opens1.array {c : α → List AV} {Q : α → Prop} {n : Nat} (ht : P.underlying t = some (.array n e)) (h : Opens P t c Q) : Opens1 P t (fun a => .agg (c a)) Q := fun H en W base v d ps hok ⟨fuel, hx⟩ => by
  obtain ⟨cs, rfl, _⟩ : ∃ cs, v = .agg cs ∧ cs.size = P.cellsOf t := by
    simp only [Value.okWide, ht] at hok
    obtain ⟨cs, h1, h2, _⟩ := hok
    exact ⟨cs, h1, h2⟩
  obtain ⟨a, q, k⟩ := h H en W true fuel _ _ hx
  refine ⟨a, q, ?_⟩
  have := V.agg (w0 := W) k.1.1 k.1.2 k.2
  simpa [Value.cells] using this
theorem OpensA.as {ts : List TypeId} {c : α → List AV} {Q : α → Prop} {c' : β → List AV} {Q' : β → Prop} (h : OpensA P ts c Q) (f : α → β) (hc : ∀ a, c a = c' (f a)) (hq : ∀ a, Q a → Q' (f a)) : OpensA P ts c' Q' := fun H en W base vs ds ps hok hh =>
  let ⟨⟨a, q, v⟩, k⟩ := h H en W base vs ds ps hok hh; ⟨⟨f a, hq a q, hc a ▸ v⟩, k⟩
end
end Go.Proofs.Ytobbiafkmgfioaa.Avm
