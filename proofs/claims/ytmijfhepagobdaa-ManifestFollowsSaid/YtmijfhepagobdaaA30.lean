/- Arrays of two as arguments. -/
import Derived.Test.YtmijfhepagobdaaA29
set_option linter.unusedVariables false
namespace Go.Proofs.Ytmijfhepagobdaa.Avm
open Go.ChangeShapes Go.WideShapes Go.ChangeAt Go.RowKit
section
variable {P : Program} {t e : TypeId} {α β : Type}
theorem Opens.array2 {c : α → List AV} {Q : α → Prop} (ht : P.underlying t = some (.array 2 e)) (hz : P.cellsOf t = P.cellsOf e + P.cellsOf e) (h : Opens P e c Q) : Opens P t (fun p : α × α => c p.1 ++ c p.2) fun p => Q p.1 ∧ Q p.2 := fun H en W held fuel cs x hx => by
  obtain ⟨xs, m, _, _, hl, hxs, hf⟩ := DataW.trod_array ht hx
  have f0 := hf 0 (by omega)
  have f1 := hf 1 (by omega)
  rw [List.getElem?_eq_getElem (by omega)] at f0 f1
  obtain ⟨a, qa, va⟩ := h H en W held m _ _ f0
  obtain ⟨b, qb, vb⟩ := h H en W held m _ _ f1
  refine ⟨(a, b), ⟨qa, qb⟩, ?_⟩
  rw [Nat.zero_mul, List.drop_zero] at va
  rw [Nat.one_mul, List.take_of_length_le (by rw [List.length_drop]; omega)] at vb
  have := va.append vb
  rw [List.take_append_drop] at this
  exact this
theorem Opens1.array {c : α → List AV} {Q : α → Prop} {n : Nat} (ht : P.underlying t = some (.array n e)) (h : Opens P t c Q) : Opens1 P t (fun a => .agg (c a)) Q := fun H en W base v d ps hok ⟨fuel, hx⟩ => by
  obtain ⟨cs, rfl, _⟩ : ∃ cs, v = .agg cs ∧ cs.size = P.cellsOf t := by
    simp only [Value.okWide, ht] at hok
    obtain ⟨cs, h1, h2, _⟩ := hok
    exact ⟨cs, h1, h2⟩
  obtain ⟨a, q, k⟩ := h H en W true fuel _ _ hx
  refine ⟨a, q, ?_⟩
  have := V.agg (w0 := W) k.1.1 k.1.2 k.2
  simpa [Value.cells] using this
theorem OpensA.as {ts : List TypeId} {c : α → List AV} {Q : α → Prop} {c' : β → List AV} {Q' : β → Prop} (h : OpensA P ts c Q) (f : α → β) (hc : ∀ a, c a = c' (f a)) (hq : ∀ a, Q a → Q' (f a)) : OpensA P ts c' Q' := fun H en W base vs ds ps hok hh =>
  let ⟨⟨a, q, v⟩, k⟩ := h H en W base vs ds ps hok hh; ⟨⟨f a, hq a q, hc a ▸ v⟩, k⟩
end
theorem byte_of {n : Int} (h : (Lit.int .u8 n).wf = true) : ((UInt8.ofNat n.toNat).toNat : Int) = n := by
  simp [Lit.wf, IntKind.min, IntKind.max, IntKind.signed, IntKind.bits] at h
  rw [UInt8.toNat_ofNat']
  omega
theorem Opens.byte {P : Program} {t : TypeId} (h : Opens P t (fun n : Int => [.int .u8 n]) fun n => (Lit.int .u8 n).wf = true) : Opens P t (fun b : UInt8 => [.int .u8 b.toNat]) fun _ => True := fun H en W held fuel cs x hx =>
  let ⟨a, q, v⟩ := h H en W held fuel cs x hx; ⟨UInt8.ofNat a.toNat, trivial, by show Vc _ _ [AV.int .u8 ((UInt8.ofNat a.toNat).toNat : Nat)] cs; rw [byte_of q]; exact v⟩
/-- a function that answers just so, seen by running it once -/
theorem AllOK.addRun {P : Program} {E : Env} (hmix : P.follows .mixedOrders = true) (hE : AllOK P E) {α : Type} {enc : α → List AV} {res : α → Option AV} (hs : ∀ a v, res a = some v → Scal v) {f : Nat} (h : ∀ a v, res a = some v → ∃ N S1, run E N f (enc a) [] = some (v, S1)) : AllOK P (E.add f (primS enc res)) := fun w0 =>
  { fn := (hE w0).fn
    prim := fun g q hq cf hcf args S v S' hp φ w vs hr hv => by
      simp only [Env.add] at hq
      split at hq
      · rename_i hg; subst hg; cases hq
        obtain ⟨a, h1, h2, rfl⟩ := primS_inv hp
        obtain ⟨N, S1, hN⟩ := h a v h2
        have hr0 : Rel w ⟨[], w.cell?⟩ [] w := ⟨Below.refl _ _, rfl, fun _ _ h => h, fun a cv i p x _ hp => by simp at hp, fun i j p q x y hp => by simp at hp, fun i p x hp => by simp at hp⟩
        have hv0 : Vs w ⟨[], w.cell?⟩ (enc a) vs := rdSL_V hr (fun a cv h => hr.fz a cv h) (fun i _ p x a cv _ _ _ _ hc => hc) h1 hv
        rcases run_ok hmix (hE w) N g (enc a) [] v S1 hN _ w vs hr0 hv0 with k | ⟨f, bs, w1, k1, k2⟩
        · obtain ⟨φ', cv, w', k1, k2, k3, k4⟩ := k
          exact .inl ⟨φ, cv, w', k1, .refl _, hr.later k3.below, hs a v h2 _ _ _ _ _ k4⟩
        · refine .inr ⟨f, bs, w1, k1, k2.mono fun e w' hb => ?_⟩
          obtain ⟨φ', cv, e1, e2, e3, e4⟩ := hb
          exact ⟨φ, cv, e1, .refl _, hr.later e3.below, hs a v h2 _ _ _ _ _ e4⟩
      · exact (hE w0).prim g q hq cf hcf args S v S' hp φ w vs hr hv }
end Go.Proofs.Ytmijfhepagobdaa.Avm
