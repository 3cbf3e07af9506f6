/- Arguments, opened by the shapes of their types; from what a law's function answers to the law's row. Arrays of two as arguments. -/
import Derived.Test.YtaajlbbooneiiaaZ6
import Derived.WalkKit
import Derived.ProofKit
import Derived.OpenShut
import Derived.ChangeOld
import Derived.Below
import Derived.SizedLaws
import Derived.JoinedOf
import Derived.Handed
set_option linter.unusedVariables false
set_option linter.unusedSimpArgs false
set_option linter.unusedSectionVars false
namespace Go.Proofs.Ytaajlbbooneiiaa.Avm
open Go.ChangeShapes Go.WideShapes Go.ChangeAt Go.RowKit

/-- cells of a type are such cells -/
def Opens (P : Program) (t : TypeId) {α : Type} (c : α → List AV) (Q : α → Prop) : Prop :=
  ∀ (H : Type) (en : TypeId × Value → H) (W : World) (held : Bool) (fuel : Nat) (cs : List Value) (x : DataW H × List MemPlace),
    DataW.trod en P W 0 (fun _ => true) held fuel t cs = some x → ∃ a, Q a ∧ Vc W ⟨[], W.cell?⟩ (c a) cs
/-- a value of a type is such a value -/
def Opens1 (P : Program) (t : TypeId) {α : Type} (c : α → AV) (Q : α → Prop) : Prop :=
  ∀ (H : Type) (en : TypeId × Value → H) (W : World) (base : Nat) (v : Value) (d : DataW H) (ps : List MemPlace), Value.okWide P W .any base t v → DataW.Trod en P W 0 (fun _ => true) true t v d ps →
    ∃ a, Q a ∧ V W ⟨[], W.cell?⟩ (c a) v

section
variable {P : Program} {t e : TypeId} {α β : Type}
theorem Opens.imp {c c' : α → List AV} {Q Q' : α → Prop} (h : Opens P t c Q) (hc : ∀ a, c a = c' a) (hq : ∀ a, Q a → Q' a) : Opens P t c' Q' := fun H en W held fuel cs x hx =>
  let ⟨a, q, v⟩ := h H en W held fuel cs x hx; ⟨a, hq a q, hc a ▸ v⟩
theorem Opens.int {k : IntKind} (ht : P.underlying t = some (.int k)) : Opens P t (fun n : Int => [.int k n]) fun n => (Lit.int k n).wf = true := fun H en W held fuel cs x hx => by
  obtain ⟨n, rfl, _, hw⟩ := DataW.trod_int ht hx
  exact ⟨n, hw, .cons (.int _ _) rfl .nil⟩
theorem Opens.bool (ht : P.underlying t = some .bool) : Opens P t (fun b : Bool => [.bool b]) fun _ => True := fun H en W held fuel cs x hx => by
  obtain ⟨n, rfl, _⟩ := DataW.trod_bool ht hx
  exact ⟨n, trivial, .cons (.bool _) rfl .nil⟩
theorem Opens.str (ht : P.underlying t = some .string) : Opens P t (fun s : List UInt8 => [.str s]) fun s => s.length ≤ maxLen := fun H en W held fuel cs x hx => by
  obtain ⟨s, rfl, _, hs⟩ := DataW.trod_string ht hx
  exact ⟨s.data.toList, by simpa using hs, .cons (.str _) rfl .nil⟩
theorem Opens.slice [Rec α] {Q : α → Prop} (ht : P.underlying t = some (.slice e)) (hz : P.cellsOf e = Rec.sz α) (h : Opens P e (Rec.c (α := α)) Q) : Opens P t (fun l : List α => [enc l]) fun l => l.length ≤ maxLen ∧ ∀ a ∈ l, Q a := fun H en W held fuel cs x hx => by
  rcases DataW.trod_slice ht hx with ⟨rfl, _⟩ | ⟨a, len, cap, elems, rest, n, _, rfl, _, _, hl, hm, hlen, hel, _⟩
  · exact ⟨[], ⟨by simp, (fun a h => by cases h)⟩, .cons .csl0 rfl .nil⟩
  · have key : ∀ k, k ≤ len → ∃ l : List α, l.length = k ∧ (∀ a ∈ l, Q a) ∧ ∃ cvs, Vc W ⟨[], W.cell?⟩ (cl l) cvs ∧ ∀ (j : Nat) (cv : Value), cvs[j]? = some cv → W.cell? (a.add j) = some cv := by
      intro k
      induction k with
      | zero => exact fun _ => ⟨[], rfl, (fun a h => by cases h), [], .nil, fun j cv h => by simp at h⟩
      | succ k ih =>
        intro hk
        obtain ⟨l, h1, h2, cvs, h3, h4⟩ := ih (by omega)
        have hs := hel k (by omega)
        rw [List.getElem?_eq_getElem (by omega), Option.bind_eq_some_iff] at hs
        obtain ⟨cs', hcs, hy⟩ := hs
        obtain ⟨_, hcl, hc⟩ := World.cells?_some hcs
        obtain ⟨b, hb, hv⟩ := h H en W held n cs' _ hy
        have hlen2 : cvs.length = k * Rec.sz α := by rw [← h3.1.1, cl_len, h1]
        refine ⟨l ++ [b], by simp [h1], fun x hx => ?_, cvs ++ cs', ?_, fun j cv hj => ?_⟩
        · rcases List.mem_append.1 hx with hx | hx
          · exact h2 x hx
          · rw [List.mem_singleton.1 hx]; exact hb
        · rw [cl_append, cl_one]; exact h3.append hv
        · by_cases hjl : j < cvs.length
          · rw [List.getElem?_append_left hjl] at hj; exact h4 j cv hj
          · rw [List.getElem?_append_right (by omega)] at hj
            have hj2 := (List.getElem?_eq_some_iff.1 hj).1
            have := hc (j - cvs.length) (by omega)
            rw [hj] at this
            have ea : (a.add (k * P.cellsOf e)).add (j - cvs.length) = a.add j := by
              have : k * Rec.sz α + (j - cvs.length) = j := by omega
              rw [add_add, hz, this]
            rw [← this, ea]
    obtain ⟨l, h1, h2, cvs, h3, h4⟩ := key len (Nat.le_refl _)
    refine ⟨l, ⟨by omega, h2⟩, .cons ?_ rfl .nil⟩
    subst h1
    exact .csl h3.1.1 h4 h3.1.2 h3.2 hl
/-- fields from a place on -/
def OpensF (P : Program) (fs : List Field) (off tot : Nat) (c : α → List AV) (Q : α → Prop) : Prop :=
  ∀ (H : Type) (en : TypeId × Value → H) (W : World) (held : Bool) (fuel : Nat) (cs : List Value), cs.length = tot →
    (∀ (i : Nat) (f : Field), fs[i]? = some f → ∃ y, DataW.trod en P W 0 (fun _ => true) held fuel f.type ((cs.drop f.offset).take (P.cellsOf f.type)) = some y) → ∃ a, Q a ∧ Vc W ⟨[], W.cell?⟩ (c a) (cs.drop off)
theorem OpensF.one {f : Field} {tot : Nat} {c : α → List AV} {Q : α → Prop} (h : Opens P f.type c Q) (he : f.offset + P.cellsOf f.type = tot) : OpensF P [f] f.offset tot c Q := fun H en W held fuel cs hl hf => by
  obtain ⟨y, hy⟩ := hf 0 f rfl
  obtain ⟨a, q, v⟩ := h H en W held fuel _ _ hy
  refine ⟨a, q, ?_⟩
  rw [List.take_of_length_le (by simp; omega)] at v
  exact v
theorem OpensF.cons {f : Field} {fs : List Field} {off tot : Nat} {c : α → List AV} {Q : α → Prop} {c2 : β → List AV} {Q2 : β → Prop} (h : Opens P f.type c Q) (he : f.offset + P.cellsOf f.type = off) (k : OpensF P fs off tot c2 Q2) :
    OpensF P (f :: fs) f.offset tot (fun p : α × β => c p.1 ++ c2 p.2) (fun p => Q p.1 ∧ Q2 p.2) := fun H en W held fuel cs hl hf => by
  obtain ⟨y, hy⟩ := hf 0 f rfl
  obtain ⟨a, q, v⟩ := h H en W held fuel _ _ hy
  obtain ⟨b, q2, v2⟩ := k H en W held fuel cs hl fun i g hg => hf (i + 1) g hg
  refine ⟨(a, b), ⟨q, q2⟩, ?_⟩
  have e : cs.drop f.offset = (cs.drop f.offset).take (P.cellsOf f.type) ++ cs.drop off := by
    rw [← he, ← List.drop_drop, List.take_append_drop]
  rw [e]; exact v.append v2
theorem Opens.struct {fs : Array Field} {gs : List Field} {tot : Nat} {c : α → List AV} {Q : α → Prop} (ht : P.underlying t = some (.struct fs)) (hz : P.cellsOf t = tot) (hfs : fs.toList = gs) (h : OpensF P gs 0 tot c Q) : Opens P t c Q := fun H en W held fuel cs x hx => by
  obtain ⟨xs, n, _, _, hl, hxs, hf⟩ := DataW.trod_struct ht hx
  have := h H en W held n cs (by omega) fun i f hi => by
    have hi2 : fs[i]? = some f := by rw [← hfs] at hi; simpa using hi
    have := hf i f hi2
    have hi3 : i < fs.size := by
      by_cases q : i < fs.size
      · exact q
      · rw [Array.getElem?_eq_none (by omega)] at hi2; cases hi2
    rw [List.getElem?_eq_getElem (by omega)] at this
    exact ⟨_, this⟩
  simpa using this
/-- told by another kind of thing -/
theorem Opens.as {c : α → List AV} {Q : α → Prop} {c' : β → List AV} {Q' : β → Prop} (h : Opens P t c Q) (f : α → β) (hc : ∀ a, c a = c' (f a)) (hq : ∀ a, Q a → Q' (f a)) : Opens P t c' Q' := fun H en W held fuel cs x hx =>
  let ⟨a, q, v⟩ := h H en W held fuel cs x hx; ⟨f a, hq a q, hc a ▸ v⟩

theorem Opens.single {c : α → AV} {Q : α → Prop} (h : Opens P t (fun a => [c a]) Q) (hv : ∀ (W : World) (base : Nat) (v : Value), Value.okWide P W .any base t v → v.cells = #[v]) : Opens1 P t c Q := fun H en W base v d ps hok ⟨fuel, hx⟩ => by
  rw [hv W base v hok] at hx
  obtain ⟨a, q, k⟩ := h H en W true fuel _ _ hx
  obtain ⟨cv, cvs, e, k1, _⟩ := k.1.cons_inv
  cases e; exact ⟨a, q, k1⟩
theorem Opens1.slice {c : α → AV} {Q : α → Prop} (ht : P.underlying t = some (.slice e)) (h : Opens P t (fun a => [c a]) Q) : Opens1 P t c Q := h.single fun W base v hok => by obtain ⟨a, l, c, rfl⟩ := okWide_slice ht hok; rfl
theorem Opens1.int {k : IntKind} (ht : P.underlying t = some (.int k)) : Opens1 P t (fun n : Int => .int k n) fun n => (Lit.int k n).wf = true := (Opens.int ht).single fun W base v hok => by obtain ⟨a, rfl⟩ := okWide_int ht hok; rfl
theorem Opens1.bool (ht : P.underlying t = some .bool) : Opens1 P t (fun b : Bool => .bool b) fun _ => True := (Opens.bool ht).single fun W base v hok => by obtain ⟨a, rfl⟩ := okWide_bool ht hok; rfl
theorem Opens1.str (ht : P.underlying t = some .string) : Opens1 P t (fun s : List UInt8 => .str s) fun s => s.length ≤ maxLen := (Opens.str ht).single fun W base v hok => by obtain ⟨a, rfl⟩ := okWide_string ht hok; rfl
theorem Opens1.struct {c : α → List AV} {Q : α → Prop} {fs : Array Field} (ht : P.underlying t = some (.struct fs)) (h : Opens P t c Q) : Opens1 P t (fun a => .agg (c a)) Q := fun H en W base v d ps hok ⟨fuel, hx⟩ => by
  obtain ⟨cs, rfl, _⟩ := okWide_struct ht hok
  obtain ⟨a, q, k⟩ := h H en W true fuel _ _ hx
  refine ⟨a, q, ?_⟩
  have := V.agg (w0 := W) k.1.1 k.1.2 k.2
  simpa [Value.cells] using this

/-- the arguments of a call are such -/
def OpensA (P : Program) (ts : List TypeId) (c : α → List AV) (Q : α → Prop) : Prop :=
  ∀ (H : Type) (en : TypeId × Value → H) (W : World) (base : Nat) (vs : List Value) (ds : List (DataW H)) (ps : List MemPlace), (∀ (j : Nat) t v, ts[j]? = some t → vs[j]? = some v → Value.okWide P W .any base t v) →
    DataW.TrodAll en P W 0 (fun _ => true) true ts vs ds ps →
    (∃ a, Q a ∧ Vs W ⟨[], W.cell?⟩ (c a) vs) ∧ ds.length = ts.length ∧ ∀ W', Below W.heap.size W W' → ∃ ps', DataW.TrodAll en P W' 0 (fun b => decide (b < W.heap.size)) true ts vs ds ps'
/-- a type that reads alike behind a call -/
def Back1 (P : Program) (t : TypeId) : Prop := P.readableRec t = true ∧ t < P.types.size
theorem Back1.trod (hl : laidOutB P = true) (hb : Back1 P t) {H : Type} {en : TypeId × Value → H} {W W' : World} {v : Value} {d : DataW H} {ps : List MemPlace} (h : DataW.Trod en P W 0 (fun _ => true) true t v d ps) (k : Below W.heap.size W W') :
    DataW.Trod en P W' 0 (fun b => decide (b < W.heap.size)) true t v d ps := Below.trod hl hb.1 hb.2 h k fun x hx => by
  obtain ⟨m, hm⟩ := h; exact DataW.trod_lt m _ _ _ hm x hx
theorem OpensA.nil : OpensA P [] (fun _ : Unit => []) fun _ => True := fun H en W base vs ds ps hok h => by
  obtain ⟨rfl, rfl⟩ : vs = [] ∧ ds = [] := by
    cases vs <;> cases ds <;> simp [DataW.TrodAll] at h <;> simp
  exact ⟨⟨(), trivial, .nil⟩, rfl, fun _ _ => ⟨[], rfl⟩⟩
theorem OpensA.one (hl : laidOutB P = true) (hb : Back1 P t) {c : α → AV} {Q : α → Prop} (h : Opens1 P t c Q) : OpensA P [t] (fun a => [c a]) Q := fun H en W base vs ds ps hok hh => by
  obtain ⟨v, vs', d, ds', p, q, rfl, rfl, rfl, h0, h1⟩ := trodAll_cons hh
  obtain ⟨rfl, rfl, rfl⟩ := trodAll_nil h1
  obtain ⟨a, q, k⟩ := h H en W base v d p (hok 0 _ _ rfl rfl) h0
  exact ⟨⟨a, q, .cons k .nil⟩, rfl, fun W' hW => ⟨_, trodAll_mk1 (hb.trod hl h0 hW)⟩⟩
theorem OpensA.cons (hl : laidOutB P = true) (hb : Back1 P t) {ts : List TypeId} {c : α → AV} {Q : α → Prop} {c2 : β → List AV} {Q2 : β → Prop} (h : Opens1 P t c Q) (h2 : OpensA P ts c2 Q2) :
    OpensA P (t :: ts) (fun p : α × β => c p.1 :: c2 p.2) fun p => Q p.1 ∧ Q2 p.2 := fun H en W base vs ds ps hok hh => by
  obtain ⟨v, vs', d, ds', p, q, rfl, rfl, rfl, h0, h1⟩ := trodAll_cons hh
  obtain ⟨a, q, k⟩ := h H en W base v d p (hok 0 _ _ rfl rfl) h0
  obtain ⟨⟨b, q2, k2⟩, k3, k4⟩ := h2 H en W base vs' ds' _ (fun j t v a b => hok (j + 1) t v a b) h1
  refine ⟨⟨(a, b), ⟨q, q2⟩, .cons k k2⟩, by simp [k3], fun W' hW => ?_⟩
  obtain ⟨ps', k5⟩ := k4 W' hW
  exact ⟨_, trodAll_cons_mk (hb.trod hl h0 hW) k5⟩
end

/-- functions that are the program's -/
inductive TabOK (P : Program) : List (Nat × AFunc) → Prop
  | nil : TabOK P []
  | cons {n : Nat} {F : AFunc} {gl : List Nat} {pf : Func} {l : List (Nat × AFunc)} (h : P.funcs[n]? = some pf) (hc : compF P gl pf = some F) (k : TabOK P l) : TabOK P ((n, F) :: l)
theorem TabOK.get {P : Program} : ∀ {l : List (Nat × AFunc)}, TabOK P l → ∀ f fn, tabF l f = some fn → ∃ gl pf, P.funcs[f]? = some pf ∧ compF P gl pf = some fn
  | [], _, f, fn, h => by simp [tabF] at h
  | (n, F) :: l, .cons h1 h2 k, f, fn, h => by
    simp only [tabF] at h
    split at h
    · rename_i e; subst e; cases h; exact ⟨_, _, h1, h2⟩
    · exact k.get f fn h
theorem TabOK.allOK {P : Program} {l : List (Nat × AFunc)} (h : TabOK P l) : AllOK P ⟨tabF l, fun _ => none⟩ := fun w0 => { fn := h.get, prim := fun f p hp => by cases hp }

/-- a law that answers true at whatever input -/
theorem law_lifted {C : Checked} {os : Os} {f : FuncId} {fn : Func} {s : ChangeSpec} {conds : List PathCond} {H : Type} {en : TypeId × Value → H} {a : Assume} (own : ownKnob C.prog.godebug = none) (started : os.Started) (noInit : C.prog.inits.idxOf? f = none)
    (hfn : C.prog.funcs[f]? = some fn)
    (witness : ∃ (w : World) (tape : Tape) (i : Input), w.os = os ∧ (w.forCall tape i).Shaped C.prog ∧ i.vars = [] ∧ Input.okWide C.prog (w.forCall tape i) .any w.heap.size f i ∧
      s.pre6 en C.prog fn conds false (w.forCall tape i).memory i.args ∧ a.holds C.prog (lone (Frame.enter C.prog f i.args .normal) [] (w.forCall tape i)))
    (hnm : (fn.name == "runtime.NumGoroutine") = false) (hbody : fn.body.isSome = true) (hmix : C.prog.follows .mixedOrders = true) {E : Env} (hE : AllOK C.prog E) {α : Type} {c : α → List AV} {Q : α → Prop} (ho : OpensA C.prog fn.params.toList c Q)
    (hv : s.vars = []) (hs : ∀ ds : List (DataW H), ds.length = fn.params.toList.length → s.fn H ds = { results := [.lit (.bool true)], args := ds }) {rt : TypeId} (hrt : fn.resultTypes = #[rt]) (hbool : C.prog.underlying rt = some .bool)
    (hrun : ∀ a, Q a → ∃ S1, Is E f (c a) [] (.bool true) S1) :
    ReturnsInHanded a C os f .any (s.pre6 en C.prog fn conds false) (s.post en C.prog fn false true false false) := by
  refine returnsInHanded_of_change_sized own started noInit hfn witness ?_
  intro W base args ds gs before hval hW _ _ _
  have hW' := hW
  obtain ⟨p, q, hA, hV, rfl, hfz, hnd⟩ := hW
  rw [hv] at hV
  obtain ⟨rfl, rfl⟩ := trodVars_none hV
  obtain ⟨⟨x, hq, hvs⟩, hlen, hback⟩ := ho H en W base args.toList ds p (fun j t v a b => hval j t v (by simpa using a) (by simpa using b)) hA
  obtain ⟨S1, N, hN⟩ := hrun x hq
  have hr0 : Rel W ⟨[], W.cell?⟩ [] W := ⟨Below.refl _ _, rfl, fun _ _ h => h, fun a cv i p x _ hp => by simp at hp, fun i j p q x y hp => by simp at hp, fun i p x hp => by simp at hp⟩
  have hd := run_ok hmix (hE W) N f (c x) [] _ S1 (hN N (Nat.le_refl _)) _ W args.toList hr0 hvs
  have hcall : (callFunc f args).run C.prog W = .ok (.enter f args) W := by
    obtain ⟨bd, hbd⟩ := Option.isSome_iff_exists.1 hbody
    simp only [beq_eq_false_iff_ne, ne_eq] at hnm
    simp [callFunc, hfn, hnm, hbd]
  rw [Array.toArray_toList, hcall] at hd
  have hcalls : Calls C.prog f args W (Back W ⟨[], W.cell?⟩ S1 (.bool true)) := by
    rcases hd with ⟨φ', cv, w', k, _⟩ | ⟨f', as, w1, k, k2⟩
    · rcases k with k | ⟨k, _⟩ <;> cases k
    · cases k; exact k2
  refine hcalls.mono fun e W' hb => ?_
  obtain ⟨φ', cv, rfl, _, hr, hv⟩ := hb
  cases hv
  obtain ⟨ps', hps⟩ := hback W' hr.below
  refine ⟨_, rfl, ds, [], _, [], ps', [], hW', ?_, ?_, ?_, hr.below.frame _, fun h => by cases h⟩
  · rw [List.append_nil, hs ds hlen, hrt]
    exact trodAll_mk1 (shut_bool hbool _)
  · rw [List.append_nil, hs ds hlen]; exact hps
  · rw [List.append_nil, hs ds hlen, hv]; exact rfl
end Go.Proofs.Ytaajlbbooneiiaa.Avm
set_option linter.unusedVariables false
namespace Go.Proofs.Ytaajlbbooneiiaa.Avm
open Go.ChangeShapes Go.WideShapes Go.ChangeAt Go.RowKit
section
variable {P : Program} {t e : TypeId} {α β : Type}
theorem Opens.array2 {c : α → List AV} {Q : α → Prop} (ht : P.underlying t = some (.array 2 e)) (hz : P.cellsOf t = P.cellsOf e + P.cellsOf e) (h : Opens P e c Q) : Opens P t (fun p : α × α => c p.1 ++ c p.2) fun p => Q p.1 ∧ Q p.2 := fun H en W held fuel cs x hx => by
  obtain ⟨xs, m, _, _, hl, hxs, hf⟩ := DataW.trod_array ht hx
  have f0 := hf 0 (by omega)
  have f1 := hf 1 (by omega)
  rw [List.getElem?_eq_getElem (by omega)] at f0 f1
  obtain ⟨a, qa, va⟩ := h H en W held m _ _ f0
  obtain ⟨b, qb, vb⟩ := h H en W held m _ _ f1
  refine ⟨(a, b), ⟨qa, qb⟩, ?_⟩
  rw [Nat.zero_mul, List.drop_zero] at va
  rw [Nat.one_mul, List.take_of_length_le (by rw [List.length_drop]; omega)] at vb
  have := va.append vb
  rw [List.take_append_drop] at this
  exact this
theorem Opens1.array {c : α → List AV} {Q : α → Prop} {n : Nat} (ht : P.underlying t = some (.array n e)) (h : Opens P t c Q) : Opens1 P t (fun a => .agg (c a)) Q := fun H en W base v d ps hok ⟨fuel, hx⟩ => by
  obtain ⟨cs, rfl, _⟩ : ∃ cs, v = .agg cs ∧ cs.size = P.cellsOf t := by
    simp only [Value.okWide, ht] at hok
    obtain ⟨cs, h1, h2, _⟩ := hok
    exact ⟨cs, h1, h2⟩
  obtain ⟨a, q, k⟩ := h H en W true fuel _ _ hx
  refine ⟨a, q, ?_⟩
  have := V.agg (w0 := W) k.1.1 k.1.2 k.2
  simpa [Value.cells] using this
theorem OpensA.as {ts : List TypeId} {c : α → List AV} {Q : α → Prop} {c' : β → List AV} {Q' : β → Prop} (h : OpensA P ts c Q) (f : α → β) (hc : ∀ a, c a = c' (f a)) (hq : ∀ a, Q a → Q' (f a)) : OpensA P ts c' Q' := fun H en W base vs ds ps hok hh =>
  let ⟨⟨a, q, v⟩, k⟩ := h H en W base vs ds ps hok hh; ⟨⟨f a, hq a q, hc a ▸ v⟩, k⟩
end
theorem byte_of {n : Int} (h : (Lit.int .u8 n).wf = true) : ((UInt8.ofNat n.toNat).toNat : Int) = n := by
  simp [Lit.wf, IntKind.min, IntKind.max, IntKind.signed, IntKind.bits] at h
  rw [UInt8.toNat_ofNat']
  omega
theorem Opens.byte {P : Program} {t : TypeId} (h : Opens P t (fun n : Int => [.int .u8 n]) fun n => (Lit.int .u8 n).wf = true) : Opens P t (fun b : UInt8 => [.int .u8 b.toNat]) fun _ => True := fun H en W held fuel cs x hx =>
  let ⟨a, q, v⟩ := h H en W held fuel cs x hx; ⟨UInt8.ofNat a.toNat, trivial, by show Vc _ _ [AV.int .u8 ((UInt8.ofNat a.toNat).toNat : Nat)] cs; rw [byte_of q]; exact v⟩
/-- a function that answers just so, seen by running it once -/
theorem AllOK.addRun {P : Program} {E : Env} (hmix : P.follows .mixedOrders = true) (hE : AllOK P E) {α : Type} {enc : α → List AV} {res : α → Option AV} (hs : ∀ a v, res a = some v → Scal v) {f : Nat} (h : ∀ a v, res a = some v → ∃ N S1, run E N f (enc a) [] = some (v, S1)) : AllOK P (E.add f (primS enc res)) := fun w0 =>
  { fn := (hE w0).fn
    prim := fun g q hq cf hcf args S v S' hp φ w vs hr hv => by
      simp only [Env.add] at hq
      split at hq
      · rename_i hg; subst hg; cases hq
        obtain ⟨a, h1, h2, rfl⟩ := primS_inv hp
        obtain ⟨N, S1, hN⟩ := h a v h2
        have hr0 : Rel w ⟨[], w.cell?⟩ [] w := ⟨Below.refl _ _, rfl, fun _ _ h => h, fun a cv i p x _ hp => by simp at hp, fun i j p q x y hp => by simp at hp, fun i p x hp => by simp at hp⟩
        have hv0 : Vs w ⟨[], w.cell?⟩ (enc a) vs := rdSL_V hr (fun a cv h => hr.fz a cv h) (fun i _ p x a cv _ _ _ _ hc => hc) h1 hv
        rcases run_ok hmix (hE w) N g (enc a) [] v S1 hN _ w vs hr0 hv0 with k | ⟨f, bs, w1, k1, k2⟩
        · obtain ⟨φ', cv, w', k1, k2, k3, k4⟩ := k
          exact .inl ⟨φ, cv, w', k1, .refl _, hr.later k3.below, hs a v h2 _ _ _ _ _ k4⟩
        · refine .inr ⟨f, bs, w1, k1, k2.mono fun e w' hb => ?_⟩
          obtain ⟨φ', cv, e1, e2, e3, e4⟩ := hb
          exact ⟨φ, cv, e1, .refl _, hr.later e3.below, hs a v h2 _ _ _ _ _ e4⟩
      · exact (hE w0).prim g q hq cf hcf args S v S' hp φ w vs hr hv }
end Go.Proofs.Ytaajlbbooneiiaa.Avm
