/- Arguments, opened by the shapes of their types; from what a law's function answers to the law's row. Arrays of two as arguments. Functions that call themselves: known to a depth, then one deeper. Calls that turn an object that they are given. Calls whose arguments' rows are given up, and are for good wherever else they stood. Functions of Go's library, by contracts: joined strings, short numbers. Contracts of Go's library at this program: joined strings, numbers' digits (printed by the kit's shelf, in plain words). Data of the seat: members, names. -/
import Derived.Test.YtaajlbbooneiiaaDoorZ7
import Derived.WalkKit
import Derived.ProofKit
import Derived.OpenShut
import Derived.ChangeOld
import Derived.Below
import Derived.SizedLaws
import Derived.JoinedOf
import Derived.Handed
import Derived.Lib.Join
import Derived.Lib.ItoaNum
import Derived.Shelf.Abstract
import Derived.Test.YtaajlbbooneiiaaDoorProg
import Derived.Shelf.Strings.OnBuilder
import Derived.Shelf.Strconv.Itoa3
set_option linter.unusedVariables false
set_option linter.unusedSimpArgs false
set_option linter.unusedSectionVars false
namespace Go.Proofs.YtaajlbbooneiiaaDoor.Avm
open Go.ChangeShapes Go.WideShapes Go.ChangeAt Go.RowKit

/-- cells of a type are such cells -/
def Opens (P : Program) (t : TypeId) {α : Type} (c : α → List AV) (Q : α → Prop) : Prop :=
  ∀ (H : Type) (en : TypeId × Value → H) (W : World) (held : Bool) (fuel : Nat) (cs : List Value) (x : DataW H × List MemPlace),
    DataW.trod en P W 0 (fun _ => true) held fuel t cs = some x → ∃ a, Q a ∧ Vc W ⟨[], W.cell?⟩ (c a) cs
/-- a value of a type is such a value -/
def Opens1 (P : Program) (t : TypeId) {α : Type} (c : α → AV) (Q : α → Prop) : Prop :=
  ∀ (H : Type) (en : TypeId × Value → H) (W : World) (base : Nat) (v : Value) (d : DataW H) (ps : List MemPlace), Value.okWide P W .any base t v → DataW.Trod en P W 0 (fun _ => true) true t v d ps →
    ∃ a, Q a ∧ V W ⟨[], W.cell?⟩ (c a) v

section
variable {P : Program} {t e : TypeId} {α β : Type}
theorem Opens.imp {c c' : α → List AV} {Q Q' : α → Prop} (h : Opens P t c Q) (hc : ∀ a, c a = c' a) (hq : ∀ a, Q a → Q' a) : Opens P t c' Q' := fun H en W held fuel cs x hx =>
  let ⟨a, q, v⟩ := h H en W held fuel cs x hx; ⟨a, hq a q, hc a ▸ v⟩
theorem Opens.int {k : IntKind} (ht : P.underlying t = some (.int k)) : Opens P t (fun n : Int => [.int k n]) fun n => (Lit.int k n).wf = true := fun H en W held fuel cs x hx => by
  obtain ⟨n, rfl, _, hw⟩ := DataW.trod_int ht hx
  exact ⟨n, hw, .cons (.int _ _) rfl .nil⟩
theorem Opens.bool (ht : P.underlying t = some .bool) : Opens P t (fun b : Bool => [.bool b]) fun _ => True := fun H en W held fuel cs x hx => by
  obtain ⟨n, rfl, _⟩ := DataW.trod_bool ht hx
  exact ⟨n, trivial, .cons (.bool _) rfl .nil⟩
theorem Opens.str (ht : P.underlying t = some .string) : Opens P t (fun s : List UInt8 => [.str s]) fun s => s.length ≤ maxLen := fun H en W held fuel cs x hx => by
  obtain ⟨s, rfl, _, hs⟩ := DataW.trod_string ht hx
  exact ⟨s.data.toList, by simpa using hs, .cons (.str _) rfl .nil⟩
theorem Opens.slice [Rec α] {Q : α → Prop} (ht : P.underlying t = some (.slice e)) (hz : P.cellsOf e = Rec.sz α) (h : Opens P e (Rec.c (α := α)) Q) : Opens P t (fun l : List α => [enc l]) fun l => l.length ≤ maxLen ∧ ∀ a ∈ l, Q a := fun H en W held fuel cs x hx => by
  rcases DataW.trod_slice ht hx with ⟨rfl, _⟩ | ⟨a, len, cap, elems, rest, n, _, rfl, _, _, hl, hm, hlen, hel, _⟩
  · exact ⟨[], ⟨by simp, (fun a h => by cases h)⟩, .cons .csl0 rfl .nil⟩
  · have key : ∀ k, k ≤ len → ∃ l : List α, l.length = k ∧ (∀ a ∈ l, Q a) ∧ ∃ cvs, Vc W ⟨[], W.cell?⟩ (cl l) cvs ∧ ∀ (j : Nat) (cv : Value), cvs[j]? = some cv → W.cell? (a.add j) = some cv := by
      intro k
      induction k with
      | zero => exact fun _ => ⟨[], rfl, (fun a h => by cases h), [], .nil, fun j cv h => by simp at h⟩
      | succ k ih =>
        intro hk
        obtain ⟨l, h1, h2, cvs, h3, h4⟩ := ih (by omega)
        have hs := hel k (by omega)
        rw [List.getElem?_eq_getElem (by omega), Option.bind_eq_some_iff] at hs
        obtain ⟨cs', hcs, hy⟩ := hs
        obtain ⟨_, hcl, hc⟩ := World.cells?_some hcs
        obtain ⟨b, hb, hv⟩ := h H en W held n cs' _ hy
        have hlen2 : cvs.length = k * Rec.sz α := by rw [← h3.1.1, cl_len, h1]
        refine ⟨l ++ [b], by simp [h1], fun x hx => ?_, cvs ++ cs', ?_, fun j cv hj => ?_⟩
        · rcases List.mem_append.1 hx with hx | hx
          · exact h2 x hx
          · rw [List.mem_singleton.1 hx]; exact hb
        · rw [cl_append, cl_one]; exact h3.append hv
        · by_cases hjl : j < cvs.length
          · rw [List.getElem?_append_left hjl] at hj; exact h4 j cv hj
          · rw [List.getElem?_append_right (by omega)] at hj
            have hj2 := (List.getElem?_eq_some_iff.1 hj).1
            have := hc (j - cvs.length) (by omega)
            rw [hj] at this
            have ea : (a.add (k * P.cellsOf e)).add (j - cvs.length) = a.add j := by
              have : k * Rec.sz α + (j - cvs.length) = j := by omega
              rw [add_add, hz, this]
            rw [← this, ea]
    obtain ⟨l, h1, h2, cvs, h3, h4⟩ := key len (Nat.le_refl _)
    refine ⟨l, ⟨by omega, h2⟩, .cons ?_ rfl .nil⟩
    subst h1
    exact .csl h3.1.1 h4 h3.1.2 h3.2 hl
/-- fields from a place on -/
def OpensF (P : Program) (fs : List Field) (off tot : Nat) (c : α → List AV) (Q : α → Prop) : Prop :=
  ∀ (H : Type) (en : TypeId × Value → H) (W : World) (held : Bool) (fuel : Nat) (cs : List Value), cs.length = tot →
    (∀ (i : Nat) (f : Field), fs[i]? = some f → ∃ y, DataW.trod en P W 0 (fun _ => true) held fuel f.type ((cs.drop f.offset).take (P.cellsOf f.type)) = some y) → ∃ a, Q a ∧ Vc W ⟨[], W.cell?⟩ (c a) (cs.drop off)
theorem OpensF.one {f : Field} {tot : Nat} {c : α → List AV} {Q : α → Prop} (h : Opens P f.type c Q) (he : f.offset + P.cellsOf f.type = tot) : OpensF P [f] f.offset tot c Q := fun H en W held fuel cs hl hf => by
  obtain ⟨y, hy⟩ := hf 0 f rfl
  obtain ⟨a, q, v⟩ := h H en W held fuel _ _ hy
  refine ⟨a, q, ?_⟩
  rw [List.take_of_length_le (by simp; omega)] at v
  exact v
theorem OpensF.cons {f : Field} {fs : List Field} {off tot : Nat} {c : α → List AV} {Q : α → Prop} {c2 : β → List AV} {Q2 : β → Prop} (h : Opens P f.type c Q) (he : f.offset + P.cellsOf f.type = off) (k : OpensF P fs off tot c2 Q2) :
    OpensF P (f :: fs) f.offset tot (fun p : α × β => c p.1 ++ c2 p.2) (fun p => Q p.1 ∧ Q2 p.2) := fun H en W held fuel cs hl hf => by
  obtain ⟨y, hy⟩ := hf 0 f rfl
  obtain ⟨a, q, v⟩ := h H en W held fuel _ _ hy
  obtain ⟨b, q2, v2⟩ := k H en W held fuel cs hl fun i g hg => hf (i + 1) g hg
  refine ⟨(a, b), ⟨q, q2⟩, ?_⟩
  have e : cs.drop f.offset = (cs.drop f.offset).take (P.cellsOf f.type) ++ cs.drop off := by
    rw [← he, ← List.drop_drop, List.take_append_drop]
  rw [e]; exact v.append v2
theorem Opens.struct {fs : Array Field} {gs : List Field} {tot : Nat} {c : α → List AV} {Q : α → Prop} (ht : P.underlying t = some (.struct fs)) (hz : P.cellsOf t = tot) (hfs : fs.toList = gs) (h : OpensF P gs 0 tot c Q) : Opens P t c Q := fun H en W held fuel cs x hx => by
  obtain ⟨xs, n, _, _, hl, hxs, hf⟩ := DataW.trod_struct ht hx
  have := h H en W held n cs (by omega) fun i f hi => by
    have hi2 : fs[i]? = some f := by rw [← hfs] at hi; simpa using hi
    have := hf i f hi2
    have hi3 : i < fs.size := by
      by_cases q : i < fs.size
      · exact q
      · rw [Array.getElem?_eq_none (by omega)] at hi2; cases hi2
    rw [List.getElem?_eq_getElem (by omega)] at this
    exact ⟨_, this⟩
  simpa using this
/-- told by another kind of thing -/
theorem Opens.as {c : α → List AV} {Q : α → Prop} {c' : β → List AV} {Q' : β → Prop} (h : Opens P t c Q) (f : α → β) (hc : ∀ a, c a = c' (f a)) (hq : ∀ a, Q a → Q' (f a)) : Opens P t c' Q' := fun H en W held fuel cs x hx =>
  let ⟨a, q, v⟩ := h H en W held fuel cs x hx; ⟨f a, hq a q, hc a ▸ v⟩

theorem Opens.single {c : α → AV} {Q : α → Prop} (h : Opens P t (fun a => [c a]) Q) (hv : ∀ (W : World) (base : Nat) (v : Value), Value.okWide P W .any base t v → v.cells = #[v]) : Opens1 P t c Q := fun H en W base v d ps hok ⟨fuel, hx⟩ => by
  rw [hv W base v hok] at hx
  obtain ⟨a, q, k⟩ := h H en W true fuel _ _ hx
  obtain ⟨cv, cvs, e, k1, _⟩ := k.1.cons_inv
  cases e; exact ⟨a, q, k1⟩
theorem Opens1.slice {c : α → AV} {Q : α → Prop} (ht : P.underlying t = some (.slice e)) (h : Opens P t (fun a => [c a]) Q) : Opens1 P t c Q := h.single fun W base v hok => by obtain ⟨a, l, c, rfl⟩ := okWide_slice ht hok; rfl
theorem Opens1.int {k : IntKind} (ht : P.underlying t = some (.int k)) : Opens1 P t (fun n : Int => .int k n) fun n => (Lit.int k n).wf = true := (Opens.int ht).single fun W base v hok => by obtain ⟨a, rfl⟩ := okWide_int ht hok; rfl
theorem Opens1.bool (ht : P.underlying t = some .bool) : Opens1 P t (fun b : Bool => .bool b) fun _ => True := (Opens.bool ht).single fun W base v hok => by obtain ⟨a, rfl⟩ := okWide_bool ht hok; rfl
theorem Opens1.str (ht : P.underlying t = some .string) : Opens1 P t (fun s : List UInt8 => .str s) fun s => s.length ≤ maxLen := (Opens.str ht).single fun W base v hok => by obtain ⟨a, rfl⟩ := okWide_string ht hok; rfl
theorem Opens1.struct {c : α → List AV} {Q : α → Prop} {fs : Array Field} (ht : P.underlying t = some (.struct fs)) (h : Opens P t c Q) : Opens1 P t (fun a => .agg (c a)) Q := fun H en W base v d ps hok ⟨fuel, hx⟩ => by
  obtain ⟨cs, rfl, _⟩ := okWide_struct ht hok
  obtain ⟨a, q, k⟩ := h H en W true fuel _ _ hx
  refine ⟨a, q, ?_⟩
  have := V.agg (w0 := W) k.1.1 k.1.2 k.2
  simpa [Value.cells] using this

/-- the arguments of a call are such -/
def OpensA (P : Program) (ts : List TypeId) (c : α → List AV) (Q : α → Prop) : Prop :=
  ∀ (H : Type) (en : TypeId × Value → H) (W : World) (base : Nat) (vs : List Value) (ds : List (DataW H)) (ps : List MemPlace), (∀ (j : Nat) t v, ts[j]? = some t → vs[j]? = some v → Value.okWide P W .any base t v) →
    DataW.TrodAll en P W 0 (fun _ => true) true ts vs ds ps →
    (∃ a, Q a ∧ Vs W ⟨[], W.cell?⟩ (c a) vs) ∧ ds.length = ts.length ∧ ∀ W', Below W.heap.size W W' → ∃ ps', DataW.TrodAll en P W' 0 (fun b => decide (b < W.heap.size)) true ts vs ds ps'
/-- a type that reads alike behind a call -/
def Back1 (P : Program) (t : TypeId) : Prop := P.readableRec t = true ∧ t < P.types.size
theorem Back1.trod (hl : laidOutB P = true) (hb : Back1 P t) {H : Type} {en : TypeId × Value → H} {W W' : World} {v : Value} {d : DataW H} {ps : List MemPlace} (h : DataW.Trod en P W 0 (fun _ => true) true t v d ps) (k : Below W.heap.size W W') :
    DataW.Trod en P W' 0 (fun b => decide (b < W.heap.size)) true t v d ps := Below.trod hl hb.1 hb.2 h k fun x hx => by
  obtain ⟨m, hm⟩ := h; exact DataW.trod_lt m _ _ _ hm x hx
theorem OpensA.nil : OpensA P [] (fun _ : Unit => []) fun _ => True := fun H en W base vs ds ps hok h => by
  obtain ⟨rfl, rfl⟩ : vs = [] ∧ ds = [] := by
    cases vs <;> cases ds <;> simp [DataW.TrodAll] at h <;> simp
  exact ⟨⟨(), trivial, .nil⟩, rfl, fun _ _ => ⟨[], rfl⟩⟩
theorem OpensA.one (hl : laidOutB P = true) (hb : Back1 P t) {c : α → AV} {Q : α → Prop} (h : Opens1 P t c Q) : OpensA P [t] (fun a => [c a]) Q := fun H en W base vs ds ps hok hh => by
  obtain ⟨v, vs', d, ds', p, q, rfl, rfl, rfl, h0, h1⟩ := trodAll_cons hh
  obtain ⟨rfl, rfl, rfl⟩ := trodAll_nil h1
  obtain ⟨a, q, k⟩ := h H en W base v d p (hok 0 _ _ rfl rfl) h0
  exact ⟨⟨a, q, .cons k .nil⟩, rfl, fun W' hW => ⟨_, trodAll_mk1 (hb.trod hl h0 hW)⟩⟩
theorem OpensA.cons (hl : laidOutB P = true) (hb : Back1 P t) {ts : List TypeId} {c : α → AV} {Q : α → Prop} {c2 : β → List AV} {Q2 : β → Prop} (h : Opens1 P t c Q) (h2 : OpensA P ts c2 Q2) :
    OpensA P (t :: ts) (fun p : α × β => c p.1 :: c2 p.2) fun p => Q p.1 ∧ Q2 p.2 := fun H en W base vs ds ps hok hh => by
  obtain ⟨v, vs', d, ds', p, q, rfl, rfl, rfl, h0, h1⟩ := trodAll_cons hh
  obtain ⟨a, q, k⟩ := h H en W base v d p (hok 0 _ _ rfl rfl) h0
  obtain ⟨⟨b, q2, k2⟩, k3, k4⟩ := h2 H en W base vs' ds' _ (fun j t v a b => hok (j + 1) t v a b) h1
  refine ⟨⟨(a, b), ⟨q, q2⟩, .cons k k2⟩, by simp [k3], fun W' hW => ?_⟩
  obtain ⟨ps', k5⟩ := k4 W' hW
  exact ⟨_, trodAll_cons_mk (hb.trod hl h0 hW) k5⟩
end

/-- functions that are the program's -/
inductive TabOK (P : Program) : List (Nat × AFunc) → Prop
  | nil : TabOK P []
  | cons {n : Nat} {F : AFunc} {gl : List Nat} {pf : Func} {l : List (Nat × AFunc)} (h : P.funcs[n]? = some pf) (hc : compF P gl pf = some F) (k : TabOK P l) : TabOK P ((n, F) :: l)
theorem TabOK.get {P : Program} : ∀ {l : List (Nat × AFunc)}, TabOK P l → ∀ f fn, tabF l f = some fn → ∃ gl pf, P.funcs[f]? = some pf ∧ compF P gl pf = some fn
  | [], _, f, fn, h => by simp [tabF] at h
  | (n, F) :: l, .cons h1 h2 k, f, fn, h => by
    simp only [tabF] at h
    split at h
    · rename_i e; subst e; cases h; exact ⟨_, _, h1, h2⟩
    · exact k.get f fn h
theorem TabOK.allOK {P : Program} {l : List (Nat × AFunc)} (h : TabOK P l) : AllOK P ⟨tabF l, fun _ => none⟩ := fun w0 => { fn := h.get, prim := fun f p hp => by cases hp }

/-- a law that answers true at whatever input -/
theorem law_lifted {C : Checked} {os : Os} {f : FuncId} {fn : Func} {s : ChangeSpec} {conds : List PathCond} {H : Type} {en : TypeId × Value → H} {a : Assume} (own : ownKnob C.prog.godebug = none) (started : os.Started) (noInit : C.prog.inits.idxOf? f = none)
    (hfn : C.prog.funcs[f]? = some fn)
    (witness : ∃ (w : World) (tape : Tape) (i : Input), w.os = os ∧ (w.forCall tape i).Shaped C.prog ∧ i.vars = [] ∧ Input.okWide C.prog (w.forCall tape i) .any w.heap.size f i ∧
      s.pre6 en C.prog fn conds false (w.forCall tape i).memory i.args ∧ a.holds C.prog (lone (Frame.enter C.prog f i.args .normal) [] (w.forCall tape i)))
    (hnm : (fn.name == "runtime.NumGoroutine") = false) (hbody : fn.body.isSome = true) (hmix : C.prog.follows .mixedOrders = true) {E : Env} (hE : AllOK C.prog E) {α : Type} {c : α → List AV} {Q : α → Prop} (ho : OpensA C.prog fn.params.toList c Q)
    (hv : s.vars = []) (hs : ∀ ds : List (DataW H), ds.length = fn.params.toList.length → s.fn H ds = { results := [.lit (.bool true)], args := ds }) {rt : TypeId} (hrt : fn.resultTypes = #[rt]) (hbool : C.prog.underlying rt = some .bool)
    (hrun : ∀ a, Q a → ∃ S1, Is E f (c a) [] (.bool true) S1) :
    ReturnsInHanded a C os f .any (s.pre6 en C.prog fn conds false) (s.post en C.prog fn false true false false) := by
  refine returnsInHanded_of_change_sized own started noInit hfn witness ?_
  intro W base args ds gs before hval hW _ _ _
  have hW' := hW
  obtain ⟨p, q, hA, hV, rfl, hfz, hnd⟩ := hW
  rw [hv] at hV
  obtain ⟨rfl, rfl⟩ := trodVars_none hV
  obtain ⟨⟨x, hq, hvs⟩, hlen, hback⟩ := ho H en W base args.toList ds p (fun j t v a b => hval j t v (by simpa using a) (by simpa using b)) hA
  obtain ⟨S1, N, hN⟩ := hrun x hq
  have hr0 : Rel W ⟨[], W.cell?⟩ [] W := ⟨Below.refl _ _, rfl, fun _ _ h => h, fun a cv i p x _ hp => by simp at hp, fun i j p q x y hp => by simp at hp, fun i p x hp => by simp at hp⟩
  have hd := run_ok hmix (hE W) N f (c x) [] _ S1 (hN N (Nat.le_refl _)) _ W args.toList hr0 hvs
  have hcall : (callFunc f args).run C.prog W = .ok (.enter f args) W := by
    obtain ⟨bd, hbd⟩ := Option.isSome_iff_exists.1 hbody
    simp only [beq_eq_false_iff_ne, ne_eq] at hnm
    simp [callFunc, hfn, hnm, hbd]
  rw [Array.toArray_toList, hcall] at hd
  have hcalls : Calls C.prog f args W (Back W ⟨[], W.cell?⟩ S1 (.bool true)) := by
    rcases hd with ⟨φ', cv, w', k, _⟩ | ⟨f', bs, w1, k, k2⟩
    · rcases k with k | ⟨k, _⟩ <;> cases k
    · cases k; exact k2
  refine hcalls.mono fun e W' hb => ?_
  obtain ⟨φ', cv, rfl, _, hr, hv⟩ := hb
  cases hv
  obtain ⟨ps', hps⟩ := hback W' hr.below
  refine ⟨_, rfl, ds, [], _, [], ps', [], hW', ?_, ?_, ?_, hr.below.frame _, fun h => by cases h⟩
  · rw [List.append_nil, hs ds hlen, hrt]
    exact trodAll_mk1 (shut_bool hbool _)
  · rw [List.append_nil, hs ds hlen]; exact hps
  · rw [List.append_nil, hs ds hlen, hv]; exact rfl
end Go.Proofs.YtaajlbbooneiiaaDoor.Avm
set_option linter.unusedVariables false
namespace Go.Proofs.YtaajlbbooneiiaaDoor.Avm
open Go.ChangeShapes Go.WideShapes Go.ChangeAt Go.RowKit
section
variable {P : Program} {t e : TypeId} {α β : Type}
theorem Opens.array2 {c : α → List AV} {Q : α → Prop} (ht : P.underlying t = some (.array 2 e)) (hz : P.cellsOf t = P.cellsOf e + P.cellsOf e) (h : Opens P e c Q) : Opens P t (fun p : α × α => c p.1 ++ c p.2) fun p => Q p.1 ∧ Q p.2 := fun H en W held fuel cs x hx => by
  obtain ⟨xs, m, _, _, hl, hxs, hf⟩ := DataW.trod_array ht hx
  have f0 := hf 0 (by omega)
  have f1 := hf 1 (by omega)
  rw [List.getElem?_eq_getElem (by omega)] at f0 f1
  obtain ⟨a, qa, va⟩ := h H en W held m _ _ f0
  obtain ⟨b, qb, vb⟩ := h H en W held m _ _ f1
  refine ⟨(a, b), ⟨qa, qb⟩, ?_⟩
  rw [Nat.zero_mul, List.drop_zero] at va
  rw [Nat.one_mul, List.take_of_length_le (by rw [List.length_drop]; omega)] at vb
  have := va.append vb
  rw [List.take_append_drop] at this
  exact this
theorem Opens1.array {c : α → List AV} {Q : α → Prop} {n : Nat} (ht : P.underlying t = some (.array n e)) (h : Opens P t c Q) : Opens1 P t (fun a => .agg (c a)) Q := fun H en W base v d ps hok ⟨fuel, hx⟩ => by
  obtain ⟨cs, rfl, _⟩ : ∃ cs, v = .agg cs ∧ cs.size = P.cellsOf t := by
    simp only [Value.okWide, ht] at hok
    obtain ⟨cs, h1, h2, _⟩ := hok
    exact ⟨cs, h1, h2⟩
  obtain ⟨a, q, k⟩ := h H en W true fuel _ _ hx
  refine ⟨a, q, ?_⟩
  have := V.agg (w0 := W) k.1.1 k.1.2 k.2
  simpa [Value.cells] using this
theorem OpensA.as {ts : List TypeId} {c : α → List AV} {Q : α → Prop} {c' : β → List AV} {Q' : β → Prop} (h : OpensA P ts c Q) (f : α → β) (hc : ∀ a, c a = c' (f a)) (hq : ∀ a, Q a → Q' (f a)) : OpensA P ts c' Q' := fun H en W base vs ds ps hok hh =>
  let ⟨⟨a, q, v⟩, k⟩ := h H en W base vs ds ps hok hh; ⟨⟨f a, hq a q, hc a ▸ v⟩, k⟩
end
theorem byte_of {n : Int} (h : (Lit.int .u8 n).wf = true) : ((UInt8.ofNat n.toNat).toNat : Int) = n := by
  simp [Lit.wf, IntKind.min, IntKind.max, IntKind.signed, IntKind.bits] at h
  rw [UInt8.toNat_ofNat']
  omega
theorem Opens.byte {P : Program} {t : TypeId} (h : Opens P t (fun n : Int => [.int .u8 n]) fun n => (Lit.int .u8 n).wf = true) : Opens P t (fun b : UInt8 => [.int .u8 b.toNat]) fun _ => True := fun H en W held fuel cs x hx =>
  let ⟨a, q, v⟩ := h H en W held fuel cs x hx; ⟨UInt8.ofNat a.toNat, trivial, by show Vc _ _ [AV.int .u8 ((UInt8.ofNat a.toNat).toNat : Nat)] cs; rw [byte_of q]; exact v⟩
/-- a function that answers just so, seen by running it once -/
theorem AllOK.addRun {P : Program} {E : Env} (hmix : P.follows .mixedOrders = true) (hE : AllOK P E) {α : Type} {enc : α → List AV} {res : α → Option AV} (hs : ∀ a v, res a = some v → Scal v) {f : Nat} (h : ∀ a v, res a = some v → ∃ N S1, run E N f (enc a) [] = some (v, S1)) : AllOK P (E.add f (primS enc res)) := fun w0 =>
  { fn := (hE w0).fn
    prim := fun g q hq cf hcf args S v S' hp φ w vs hr hv => by
      simp only [Env.add] at hq
      split at hq
      · rename_i hg; subst hg; cases hq
        obtain ⟨a, h1, h2, rfl⟩ := primS_inv hp
        obtain ⟨N, S1, hN⟩ := h a v h2
        have hr0 : Rel w ⟨[], w.cell?⟩ [] w := ⟨Below.refl _ _, rfl, fun _ _ h => h, fun a cv i p x _ hp => by simp at hp, fun i j p q x y hp => by simp at hp, fun i p x hp => by simp at hp⟩
        have hv0 : Vs w ⟨[], w.cell?⟩ (enc a) vs := rdSL_V hr (fun a cv h => hr.fz a cv h) (fun i _ p x a cv _ _ _ _ hc => hc) h1 hv
        rcases run_ok hmix (hE w) N g (enc a) [] v S1 hN _ w vs hr0 hv0 with k | ⟨f, bs, w1, k1, k2⟩
        · obtain ⟨φ', cv, w', k1, k2, k3, k4⟩ := k
          exact .inl ⟨φ, cv, w', k1, .refl _, hr.later k3.below, hs a v h2 _ _ _ _ _ k4⟩
        · refine .inr ⟨f, bs, w1, k1, k2.mono fun e w' hb => ?_⟩
          obtain ⟨φ', cv, e1, e2, e3, e4⟩ := hb
          exact ⟨φ, cv, e1, .refl _, hr.later e3.below, hs a v h2 _ _ _ _ _ e4⟩
      · exact (hE w0).prim g q hq cf hcf args S v S' hp φ w vs hr hv }
end Go.Proofs.YtaajlbbooneiiaaDoor.Avm
set_option linter.unusedVariables false
set_option linter.unusedSimpArgs false
set_option linter.unusedSectionVars false
namespace Go.Proofs.YtaajlbbooneiiaaDoor.Avm
open Go.RowKit

/-- a function's body, run -/
def bodyA (cf : CallF) (n : Nat) (fn : AFunc) (args : List AV) (S : Store) : Option (AV × Store) :=
  if args.length = fn.np then match exec cf n fn.body (initA args) S with
    | some (.exit _, _, _) => none
    | some (_, g, S') => (resA g S' fn.res).map fun vs => (oneOrTup vs, S')
    | none => none else none

theorem body_ok {P : Program} {w0 : World} {cf : CallF} {n : Nat} (hmix : P.follows .mixedOrders = true) (hcf : CallOK P w0 cf) {f : Nat} {fn : AFunc} {gl : List Nat} {pf : Func} (hpf : P.funcs[f]? = some pf) (hc : compF P gl pf = some fn)
    {args : List AV} {S : Store} {v : AV} {S' : Store} (h : bodyA cf n fn args S = some (v, S')) {φ : Pc} {w : World} {vs : List Value} (hr : Rel w0 φ S w) (hv : Vs w0 φ args vs) : Does P w0 φ S' v ((callFunc f vs.toArray).run P w) := by
  unfold bodyA at h
  unfold compF at hc
  split at hc
  · rename_i c rs hb hrs
    simp only at hc
    split at hc
    · rename_i hok
      cases hc
      simp only [Bool.and_eq_true, decide_eq_true_eq, bne_iff_ne, ne_eq] at hok
      split at h
      · rename_i hal
        split at h
        · cases h
        · rename_i ex g1 S1 hnex hex
          obtain ⟨rvs, hres, hh⟩ := Option.map_eq_some_iff.1 h
          cases hh
          refine .inr ⟨f, vs.toArray, w, by simp [callFunc, hpf, hok.2, hb], ?_⟩
          refine calls_of_wp hpf hb ?_
          have hsz : vs.length = pf.params.size + pf.nfree := by rw [← hv.1]; exact hal
          refine code_ok hmix hcf c _ φ _ w (initA args) S ex g1 _ hex hr ⟨?_, rfl, fun t ht => ?_⟩ fun φ' a' w' hx hr' ha' => ?_
          · simp; omega
          · simp only [initA]
            by_cases htl : t < vs.length
            · have h1 : (vs.toArray ++ Array.replicate (pf.ntmps - vs.toArray.size) undef).getD t undef = vs[t] := by
                rw [Array.getD_eq_getD_getElem?, Array.getElem?_append_left (by simpa using htl)]; simp [htl]
              rw [h1, List.getD_eq_getElem?_getD, List.getElem?_eq_getElem (by rw [hv.1]; exact htl)]
              exact hv.2 t _ _ (List.getElem?_eq_getElem (by rw [hv.1]; exact htl)) (List.getElem?_eq_getElem htl)
            · have h1 : (vs.toArray ++ Array.replicate (pf.ntmps - vs.toArray.size) undef).getD t undef = undef := by
                rw [Array.getD_eq_getD_getElem?, Array.getElem?_append_right (by simpa using htl), Array.getElem?_replicate]
                split <;> rfl
              rw [h1, List.getD_eq_getElem?_getD, List.getElem?_eq_none (by rw [hv.1]; omega)]
              exact .undef
          · obtain ⟨cvs, q1, q2⟩ := res_ok (P := P) hr' ha' _ _ _ hrs hres
            have hfin : a'.defers = [] ∧ ∃ v, (results pf a'.tmps).run P w' = .ok v w' ∧ Back w0 φ S' (oneOrTup rvs) (.returned v) w' := by
              refine ⟨ha'.defers, _, ?_, φ', _, rfl, hx, hr', one_V q2⟩
              unfold results
              rw [Array.mapM_eq_mapM_toList]
              simp only [map_eq_pure_bind, bind_assoc, Sem.run_bind, Sem.run_pure, pure_bind]
              exact congrArg (fun r : Result (List Value) => r.andThen fun a w' => Result.ok (if h : a.toArray.size = 1 then a.toArray[0] else Value.tuple a.toArray) w') q1
            cases ex with
            | normal => exact hfin
            | ret => exact hfin
            | exit id => exact (hnex id rfl).elim
        · cases h
      · cases h
    · cases hc
  · cases hc

/-- a body comes back with just this -/
def IsB (E : Env) (fn : AFunc) (args : List AV) (S : Store) (v : AV) (S' : Store) : Prop := ∃ N, ∀ n m, N ≤ n → N ≤ m → bodyA (run E m) n fn args S = some (v, S')
def SpB (E : Env) (fn : AFunc) (args : List AV) (S : Store) (R : AV → Store → Prop) : Prop := ∃ v S', R v S' ∧ IsB E fn args S v S'
theorem SpB.intro {E : Env} {fn : AFunc} {args : List AV} {S : Store} {R : AV → Store → Prop} (hl : args.length = fn.np)
    (h : wpC E fn.body (initA args) S (fin fn.res R) .mk) : SpB E fn args S R := by
  obtain ⟨ex, g, S', q, N, hN⟩ := wpC_spec h
  have : ∃ vs, resA g S' fn.res = some vs ∧ R (oneOrTup vs) S' ∧ ∀ i, ex ≠ .exit i := by
    cases ex with
    | exit i => exact q.elim
    | normal =>
      simp only [fin, thnR] at q
      split at q
      · rename_i vs hv; exact ⟨vs, hv, q, by simp⟩
      · exact q.elim
    | ret =>
      simp only [fin, thnR] at q
      split at q
      · rename_i vs hv; exact ⟨vs, hv, q, by simp⟩
      · exact q.elim
  obtain ⟨vs, hv, hR, hne⟩ := this
  refine ⟨_, S', hR, N, fun n m hn hm => ?_⟩
  unfold bodyA
  rw [if_pos hl, hN n m hn hm]
  cases ex with
  | exit i => exact absurd rfl (hne i)
  | normal => simp only [hv]; rfl
  | ret => simp only [hv]; rfl

def OkSB {α : Type} (E : Env) (fn : AFunc) (enc : α → List AV) (res : α → Option AV) : Prop := ∀ a v, res a = some v → ∃ S1, IsB E fn (enc a) [] v S1
def OkGB {α : Type} (E : Env) (fn : AFunc) (enc : α → List AV) (res : α → Option AV) : Prop := ∀ a v S, res a = some v → ∃ v1 S1, IsB E fn (enc a) S v1 S1 ∧ Conv S S1 v1 S v
section
variable {α : Type} {E : Env} {fn : AFunc} {enc : α → List AV} {k : α → Prop} {r : α → AV}
theorem OkSB.code (hl : ∀ a, (enc a).length = fn.np) (h : ∀ a, k a → wpC E fn.body (initA (enc a)) [] (fin fn.res fun v _ => v = r a) .mk) : OkSB E fn enc (gd k r) := fun a v hv => by
  obtain ⟨hk, rfl⟩ := gd_inv hv
  obtain ⟨v, S', rfl, hi⟩ := SpB.intro (hl a) (h a hk)
  exact ⟨S', hi⟩
theorem OkGB.code (hl : ∀ a, (enc a).length = fn.np) (h : ∀ a S, k a → wpC E fn.body (initA (enc a)) S (fin fn.res fun v T => Conv S T v S (r a)) .mk) : OkGB E fn enc (gd k r) := fun a v S hv => by
  obtain ⟨hk, rfl⟩ := gd_inv hv
  obtain ⟨v, S', hc, hi⟩ := SpB.intro (hl a) (h a S hk)
  exact ⟨v, S', hi, hc⟩
end

theorem AllOK.addSB {P : Program} {E E1 : Env} (hmix : P.follows .mixedOrders = true) (hE : AllOK P E) (hE1 : AllOK P E1) {f : Nat} {fn : AFunc} (hf : E.F f = some fn) {α : Type} {enc : α → List AV} {res : α → Option AV} (hs : ∀ a v, res a = some v → Scal v) (h : OkSB E1 fn enc res) : AllOK P (E.add f (primS enc res)) := fun w0 =>
  { fn := (hE w0).fn
    prim := fun g q hq cf hcf args S v S' hp φ w vs hr hv => by
      simp only [Env.add] at hq
      split at hq
      · rename_i hg; subst hg; cases hq
        obtain ⟨gl, pf, hpf, hc⟩ := (hE w0).fn g fn hf
        obtain ⟨a, h1, h2, rfl⟩ := primS_inv hp
        obtain ⟨S1, N, hN⟩ := h a v h2
        have hr0 : Rel w ⟨[], w.cell?⟩ [] w := ⟨Below.refl _ _, rfl, fun _ _ h => h, fun a cv i p x _ hp => by simp at hp, fun i j p q x y hp => by simp at hp, fun i p x hp => by simp at hp⟩
        have hv0 : Vs w ⟨[], w.cell?⟩ (enc a) vs := rdSL_V hr (fun a cv h => hr.fz a cv h) (fun i _ p x a cv _ _ _ _ hc => hc) h1 hv
        rcases body_ok hmix (run_ok hmix (hE1 w) N) hpf hc (hN N N (Nat.le_refl _) (Nat.le_refl _)) hr0 hv0 with k | ⟨f, bs, w1, k1, k2⟩
        · obtain ⟨φ', cv, w', k1, k2, k3, k4⟩ := k
          exact .inl ⟨φ, cv, w', k1, .refl _, hr.later k3.below, hs a v h2 _ _ _ _ _ k4⟩
        · refine .inr ⟨f, bs, w1, k1, k2.mono fun e w' hb => ?_⟩
          obtain ⟨φ', cv, e1, e2, e3, e4⟩ := hb
          exact ⟨φ, cv, e1, .refl _, hr.later e3.below, hs a v h2 _ _ _ _ _ e4⟩
      · exact (hE w0).prim g q hq cf hcf args S v S' hp φ w vs hr hv }
theorem AllOK.addGB {P : Program} {E E1 : Env} (hmix : P.follows .mixedOrders = true) (hE : AllOK P E) (hE1 : AllOK P E1) {f : Nat} {fn : AFunc} (hf : E.F f = some fn) {α : Type} {enc : α → List AV} {res : α → Option AV} (h : OkGB E1 fn enc res) : AllOK P (E.add f (primG enc res)) := fun w0 =>
  { fn := (hE w0).fn
    prim := fun g q hq cf hcf args S v S' hp φ w vs hr hv => by
      simp only [Env.add] at hq
      split at hq
      · rename_i hg; subst hg; cases hq
        obtain ⟨gl, pf, hpf, hc⟩ := (hE w0).fn g fn hf
        obtain ⟨a, h1, h2, rfl⟩ := primG_inv hp
        obtain ⟨φ1, g1, g2, g3⟩ := hr.give (topIdsL args)
        obtain ⟨v1, S1, ⟨N, hN⟩, hcv⟩ := h a v (killL (topIdsL args) S) h2
        have hv0 : Vs w0 φ1 (enc a) vs := rdSL_V hr g1.fz g3 h1 hv
        rcases body_ok hmix (run_ok hmix (hE1 w0) N) hpf hc (hN N N (Nat.le_refl _) (Nat.le_refl _)) g2 hv0 with k | ⟨f, bs, w1, k1, k2⟩
        · obtain ⟨φ', cv, w', k1, k2, k3, k4⟩ := k
          obtain ⟨φ2, m1, m2, m3⟩ := hcv.rel g2 k2 k3 k4
          exact .inl ⟨φ2, cv, w', k1, g1.trans m1, m2, m3⟩
        · refine .inr ⟨f, bs, w1, k1, k2.mono fun e w' hb => ?_⟩
          obtain ⟨φ', cv, e1, e2, e3, e4⟩ := hb
          obtain ⟨φ2, m1, m2, m3⟩ := hcv.rel g2 e2 e3 e4
          exact ⟨φ2, cv, e1, g1.trans m1, m2, m3⟩
      · exact (hE w0).prim g q hq cf hcf args S v S' hp φ w vs hr hv }

/-! ### known to a depth -/
theorem gd_none {α : Type} {k : α → Prop} {r : α → AV} (h : ∀ a, ¬ k a) {a : α} {v : AV} (hv : gd k r a = some v) : False := h a (gd_inv hv).1
theorem AllOK.recS {P : Program} {E : Env} (hmix : P.follows .mixedOrders = true) (hE : AllOK P E) {f : Nat} {fn : AFunc} (hf : E.F f = some fn) {α : Type} {enc : α → List AV} {k : Nat → α → Prop} {r : α → AV} (hs : ∀ a, Scal (r a)) (h0 : ∀ a, ¬ k 0 a)
    (h : ∀ d, OkSB (E.add f (primS enc (gd (k d) r))) fn enc (gd (k (d + 1)) r)) : ∀ d, AllOK P (E.add f (primS enc (gd (k d) r)))
  | 0 => fun w0 => { fn := (hE w0).fn
                     prim := fun g q hq cf hcf args S v S' hp φ w vs hr hv => by
                      simp only [Env.add] at hq
                      split at hq
                      · rename_i hg; subst hg; cases hq
                        obtain ⟨a, h1, h2, rfl⟩ := primS_inv hp
                        exact (gd_none h0 h2).elim
                      · exact (hE w0).prim g q hq cf hcf args S v S' hp φ w vs hr hv }
  | d + 1 => AllOK.addSB hmix hE (AllOK.recS hmix hE hf hs h0 h d) hf (Scal.gd hs) (h d)
theorem AllOK.recG {P : Program} {E : Env} (hmix : P.follows .mixedOrders = true) (hE : AllOK P E) {f : Nat} {fn : AFunc} (hf : E.F f = some fn) {α : Type} {enc : α → List AV} {k : Nat → α → Prop} {r : α → AV} (h0 : ∀ a, ¬ k 0 a)
    (h : ∀ d, OkGB (E.add f (primG enc (gd (k d) r))) fn enc (gd (k (d + 1)) r)) : ∀ d, AllOK P (E.add f (primG enc (gd (k d) r)))
  | 0 => fun w0 => { fn := (hE w0).fn
                     prim := fun g q hq cf hcf args S v S' hp φ w vs hr hv => by
                      simp only [Env.add] at hq
                      split at hq
                      · rename_i hg; subst hg; cases hq
                        obtain ⟨a, h1, h2, rfl⟩ := primG_inv hp
                        exact (gd_none h0 h2).elim
                      · exact (hE w0).prim g q hq cf hcf args S v S' hp φ w vs hr hv }
  | d + 1 => AllOK.addGB hmix hE (AllOK.recG hmix hE hf h0 h d) hf (h d)

/-! ### calls that turn an object that they are given -/
noncomputable section
open Classical
variable {σ α : Type}
def primM (encS : σ → List AV) (enc : α → List AV) (res : σ → α → Option (AV × σ)) (args : List AV) (S : Store) : Option (AV × Store) :=
  match args with
  | .ptr id off :: rest => if h : off = 0 ∧ ∃ p : σ × α, S[id]? = some (.cells (encS p.1)) ∧ rd0L rest = some (enc p.2) then (res h.2.choose.1 h.2.choose.2).map fun q => (q.1, S.set id (.cells (encS q.2))) else none
  | _ => none
end
section
variable {σ α : Type} {encS : σ → List AV} {enc : α → List AV} {res : σ → α → Option (AV × σ)} {args : List AV} {S S' : Store} {s s' : σ} {a : α} {v : AV} {id : Nat}
theorem primM_eq (hS : Inj encS) (hi : Inj enc) (h : S[id]? = some (.cells (encS s))) (hr : rd0L args = some (enc a)) (hq : res s a = some (v, s')) : primM encS enc res (.ptr id 0 :: args) S = some (v, S.set id (.cells (encS s'))) := by
  have he : 0 = 0 ∧ ∃ p : σ × α, S[id]? = some (.cells (encS p.1)) ∧ rd0L args = some (enc p.2) := ⟨rfl, (s, a), h, hr⟩
  have h1 : he.2.choose.1 = s := hS _ _ (by have := he.2.choose_spec.1.symm.trans h; simpa using this)
  have h2 : he.2.choose.2 = a := hi _ _ (Option.some.inj (he.2.choose_spec.2.symm.trans hr))
  unfold primM; simp only; rw [dif_pos he, h1, h2, hq]; rfl
theorem primM_inv (h : primM encS enc res args S = some (v, S')) : ∃ id rest s a s', args = .ptr id 0 :: rest ∧ S[id]? = some (.cells (encS s)) ∧ rd0L rest = some (enc a) ∧ res s a = some (v, s') ∧ S' = S.set id (.cells (encS s')) := by
  unfold primM at h
  split at h
  · rename_i id off rest
    split at h
    · rename_i he
      obtain ⟨q, h1, h2⟩ := Option.map_eq_some_iff.1 h
      cases h2
      obtain ⟨rfl, he⟩ := he
      exact ⟨id, rest, _, _, q.2, rfl, he.choose_spec.1, he.choose_spec.2, h1, rfl⟩
    · cases h
  · cases h
end
def OkM {σ α : Type} (E : Env) (f : Nat) (encS : σ → List AV) (enc : α → List AV) (res : σ → α → Option (AV × σ)) : Prop :=
  ∀ s a v s', res s a = some (v, s') → ∀ (S : Store) (id : Nat), S[id]? = some (.cells (encS s)) → ∃ v1 S1, Is E f (.ptr id 0 :: enc a) S v1 S1 ∧ Conv S S1 v1 (S.set id (.cells (encS s'))) v
def OkMB {σ α : Type} (E : Env) (fn : AFunc) (encS : σ → List AV) (enc : α → List AV) (res : σ → α → Option (AV × σ)) : Prop :=
  ∀ s a v s', res s a = some (v, s') → ∀ (S : Store) (id : Nat), S[id]? = some (.cells (encS s)) → ∃ v1 S1, IsB E fn (.ptr id 0 :: enc a) S v1 S1 ∧ Conv S S1 v1 (S.set id (.cells (encS s'))) v
theorem AllOK.addM {P : Program} {E : Env} (hmix : P.follows .mixedOrders = true) (hE : AllOK P E) {σ α : Type} {encS : σ → List AV} {enc : α → List AV} {res : σ → α → Option (AV × σ)} {f : Nat} (h : OkM E f encS enc res) : AllOK P (E.add f (primM encS enc res)) := fun w0 =>
  { fn := (hE w0).fn
    prim := fun g q hq cf hcf args S v S' hp φ w vs hr hv => by
      simp only [Env.add] at hq
      split at hq
      · rename_i hg; subst hg; cases hq
        obtain ⟨id, rest, s, a, s', rfl, h1, h2, h3, rfl⟩ := primM_inv hp
        obtain ⟨v1, S1, ⟨N, hN⟩, hc⟩ := h s a v s' h3 S id h1
        obtain ⟨cv, cvs, rfl, k1, k2⟩ := hv.cons_inv
        have hv0 : Vs w0 φ (.ptr id 0 :: enc a) (cv :: cvs) := .cons k1 (rd0L_V (fun _ _ h => h) h2 k2)
        rcases run_ok hmix (hE w0) N g _ _ v1 S1 (hN N (Nat.le_refl _)) _ w _ hr hv0 with k | ⟨f, bs, w1, k1, k2⟩
        · obtain ⟨φ', cv, w', k1, k2, k3, k4⟩ := k
          obtain ⟨φ2, m1, m2, m3⟩ := hc.rel hr k2 k3 k4
          exact .inl ⟨φ2, cv, w', k1, m1, m2, m3⟩
        · refine .inr ⟨f, bs, w1, k1, k2.mono fun e w' hb => ?_⟩
          obtain ⟨φ', cv, e1, e2, e3, e4⟩ := hb
          obtain ⟨φ2, m1, m2, m3⟩ := hc.rel hr e2 e3 e4
          exact ⟨φ2, cv, e1, m1, m2, m3⟩
      · exact (hE w0).prim g q hq cf hcf args S v S' hp φ w vs hr hv }
theorem AllOK.addMB {P : Program} {E E1 : Env} (hmix : P.follows .mixedOrders = true) (hE : AllOK P E) (hE1 : AllOK P E1) {f : Nat} {fn : AFunc} (hf : E.F f = some fn) {σ α : Type} {encS : σ → List AV} {enc : α → List AV} {res : σ → α → Option (AV × σ)} (h : OkMB E1 fn encS enc res) : AllOK P (E.add f (primM encS enc res)) := fun w0 =>
  { fn := (hE w0).fn
    prim := fun g q hq cf hcf args S v S' hp φ w vs hr hv => by
      simp only [Env.add] at hq
      split at hq
      · rename_i hg; subst hg; cases hq
        obtain ⟨gl, pf, hpf, hcm⟩ := (hE w0).fn g fn hf
        obtain ⟨id, rest, s, a, s', rfl, h1, h2, h3, rfl⟩ := primM_inv hp
        obtain ⟨v1, S1, ⟨N, hN⟩, hc⟩ := h s a v s' h3 S id h1
        obtain ⟨cv, cvs, rfl, k1, k2⟩ := hv.cons_inv
        have hv0 : Vs w0 φ (.ptr id 0 :: enc a) (cv :: cvs) := .cons k1 (rd0L_V (fun _ _ h => h) h2 k2)
        rcases body_ok hmix (run_ok hmix (hE1 w0) N) hpf hcm (hN N N (Nat.le_refl _) (Nat.le_refl _)) hr hv0 with k | ⟨f, bs, w1, k1, k2⟩
        · obtain ⟨φ', cv, w', k1, k2, k3, k4⟩ := k
          obtain ⟨φ2, m1, m2, m3⟩ := hc.rel hr k2 k3 k4
          exact .inl ⟨φ2, cv, w', k1, m1, m2, m3⟩
        · refine .inr ⟨f, bs, w1, k1, k2.mono fun e w' hb => ?_⟩
          obtain ⟨φ', cv, e1, e2, e3, e4⟩ := hb
          obtain ⟨φ2, m1, m2, m3⟩ := hc.rel hr e2 e3 e4
          exact ⟨φ2, cv, e1, m1, m2, m3⟩
      · exact (hE w0).prim g q hq cf hcf args S v S' hp φ w vs hr hv }
open Classical in
/-- an answer and the object's new state, where a condition holds -/
noncomputable def gdM {σ α : Type} (k : σ → α → Prop) (r : σ → α → AV × σ) (s : σ) (a : α) : Option (AV × σ) := if k s a then some (r s a) else none
theorem gdM_inv {σ α : Type} {k : σ → α → Prop} {r : σ → α → AV × σ} {s : σ} {a : α} {q : AV × σ} (h : gdM k r s a = some q) : k s a ∧ q = r s a := by
  unfold gdM at h
  split at h
  · rename_i hk; cases h; exact ⟨hk, rfl⟩
  · cases h
theorem AllOK.recM {P : Program} {E : Env} (hmix : P.follows .mixedOrders = true) (hE : AllOK P E) {f : Nat} {fn : AFunc} (hf : E.F f = some fn) {σ α : Type} {encS : σ → List AV} {enc : α → List AV} {k : Nat → σ → α → Prop} {r : σ → α → AV × σ} (h0 : ∀ s a, ¬ k 0 s a)
    (h : ∀ d, OkMB (E.add f (primM encS enc (gdM (k d) r))) fn encS enc (gdM (k (d + 1)) r)) : ∀ d, AllOK P (E.add f (primM encS enc (gdM (k d) r)))
  | 0 => fun w0 => { fn := (hE w0).fn
                     prim := fun g q hq cf hcf args S v S' hp φ w vs hr hv => by
                      simp only [Env.add] at hq
                      split at hq
                      · rename_i hg; subst hg; cases hq
                        obtain ⟨id, rest, s, a, s', rfl, h1, h2, h3, rfl⟩ := primM_inv hp
                        exact (h0 _ _ (gdM_inv h3).1).elim
                      · exact (hE w0).prim g q hq cf hcf args S v S' hp φ w vs hr hv }
  | d + 1 => AllOK.addMB hmix hE (AllOK.recM hmix hE hf h0 h d) hf (h d)

theorem callM {σ α : Type} {E : Env} {f : Nat} {encS : σ → List AV} {enc : α → List AV} {k : σ → α → Prop} {r : σ → α → AV × σ} {args : List AV} {S : Store} {s : σ} {a : α} {id : Nat} {K : AV → Store → Prop} {d : Dm K}
    (h : E.prim f = some fun _ => primM encS enc (gdM k r)) (hS : Inj encS) (hi : Inj enc) (hs : S[id]? = some (.cells (encS s))) (hr : rd0L args = some (enc a)) (hk : k s a) :
    SpD E f (.ptr id 0 :: args) S K d = K (r s a).1 (S.set id (.cells (encS (r s a).2))) :=
  Is.spD (Is.prim h (primM_eq hS hi hs hr (show gdM k r s a = some ((r s a).1, (r s a).2) from by unfold gdM; rw [if_pos hk]))) K d

/-- the object that was given, turned; what was answered, told for good -/
theorem Conv.turned {S T : Store} {id : Nat} {cs ds : List AV} {v u : AV} (hp : S.set id (.cells cs) <+: T) (hid : id < S.length) (hi : ∀ i, i ∈ topIdsL cs → S.length ≤ i) (hc : rdSL T cs = some ds)
    (hj : ∀ i, i ∈ topIds v → S.length ≤ i) (hv : rdS T v = some u) : Conv S T v (S.set id (.cells ds)) u := by
  obtain ⟨U, rfl⟩ := hp
  have none' : ∀ i, S.length ≤ i → (fun i => if i < S.length then some i else none : Nat → Option Nat) i = none := fun i h => if_neg (by omega)
  refine ⟨fun i => if i < S.length then some i else none, fun i => i, fun i h => if_pos h, fun i i' h => ?_, fun i' h => ?_, fun i' x' h => ?_, rdS_Cv _ _ (fun i h => none' i (hj i h)) hv⟩
  · simp only at h
    split at h
    · cases h; rename_i h; exact ⟨by simpa using h, rfl⟩
    · cases h
  · simp only [List.length_set] at h
    exact ⟨by simp; omega, if_pos h⟩
  · have hl : i' < S.length := by have := (List.getElem?_eq_some_iff.1 h).1; simpa using this
    by_cases e : i' = id
    · subst e
      rw [List.getElem?_set_self hid] at h; cases h
      refine .inr ⟨.cells cs, by show (S.set i' (.cells cs) ++ U)[i']? = _; rw [List.getElem?_append_left (by simpa using hl), List.getElem?_set_self hid], ?_⟩
      obtain ⟨q1, q2⟩ := rdSL_Cv (ρ := fun i => if i < S.length then some i else none) cs ds (fun i h => none' i (hi i h)) hc
      exact .cells q1 q2
    · rw [List.getElem?_set_ne (fun q => e q.symm)] at h
      exact .inl ⟨hl, h, by rw [List.getElem?_append_left (by simpa using hl), List.getElem?_set_ne (fun q => e q.symm)]; exact h⟩

section
variable {σ α : Type} {E : Env} {f : Nat} {fn : AFunc} {encS : σ → List AV} {enc : α → List AV} {k : σ → α → Prop} {r : σ → α → AV × σ}
theorem OkM.code (hp : E.prim f = none) (hf : E.F f = some fn) (hl : ∀ a, (enc a).length + 1 = fn.np)
    (h : ∀ s a S id, S[id]? = some (.cells (encS s)) → k s a → wpC E fn.body (initA (.ptr id 0 :: enc a)) S (fin fn.res fun v T => Conv S T v (S.set id (.cells (encS (r s a).2))) (r s a).1) .mk) : OkM E f encS enc (gdM k r) := fun s a v s' hv S id hs => by
  obtain ⟨hk, he⟩ := gdM_inv hv
  obtain ⟨v1, S1, hc, hi⟩ := Sp.intro hp hf (by simpa using hl a) (h s a S id hs hk)
  rw [← he] at hc
  exact ⟨v1, S1, hi, hc⟩
theorem OkMB.code (hl : ∀ a, (enc a).length + 1 = fn.np)
    (h : ∀ s a S id, S[id]? = some (.cells (encS s)) → k s a → wpC E fn.body (initA (.ptr id 0 :: enc a)) S (fin fn.res fun v T => Conv S T v (S.set id (.cells (encS (r s a).2))) (r s a).1) .mk) : OkMB E fn encS enc (gdM k r) := fun s a v s' hv S id hs => by
  obtain ⟨hk, he⟩ := gdM_inv hv
  obtain ⟨v1, S1, hc, hi⟩ := SpB.intro (by simpa using hl a) (h s a S id hs hk)
  rw [← he] at hc
  exact ⟨v1, S1, hi, hc⟩
end
/-- a function that does just this with whatever it is given -/
def PrimE (E : Env) (f : Nat) (p : List AV → Store → Option (AV × Store)) : Prop :=
  ∀ (args : List AV) (S : Store) (v : AV) (S' : Store), p args S = some (v, S') → ∃ N v1 S1, run E N f args S = some (v1, S1) ∧ ((∀ (T : Store) (ρ : Nat → Option Nat), (∀ i, i < S.length → ρ i = some i) → ∀ x, x ∈ args → Cv T ρ x x) → Conv S S1 v1 S' v)
theorem AllOK.addE {P : Program} {E : Env} (hmix : P.follows .mixedOrders = true) (hE : AllOK P E) {f : Nat} {p : List AV → Store → Option (AV × Store)} (h : PrimE E f p) : AllOK P (E.add f p) := fun w0 =>
  { fn := (hE w0).fn
    prim := fun g q hq cf hcf args S v S' hp φ w vs hr hv => by
      simp only [Env.add] at hq
      split at hq
      · rename_i hg; subst hg; cases hq
        obtain ⟨N, v1, S1, h1, h2⟩ := h args S v S' hp
        have hc := h2 fun T ρ hρ x hx => by
          obtain ⟨j, hj, rfl⟩ := List.getElem_of_mem hx
          obtain ⟨cv, _, k⟩ := hv.get (List.getElem?_eq_getElem hj)
          exact k.cvRefl fun i hi => hρ i (by rw [← hr.len]; exact hi)
        rcases run_ok hmix (hE w0) N g _ _ v1 S1 h1 _ w _ hr hv with k | ⟨f, bs, w1, k1, k2⟩
        · obtain ⟨φ', cv, w', k1, k2, k3, k4⟩ := k
          obtain ⟨φ2, m1, m2, m3⟩ := hc.rel hr k2 k3 k4
          exact .inl ⟨φ2, cv, w', k1, m1, m2, m3⟩
        · refine .inr ⟨f, bs, w1, k1, k2.mono fun e w' hb => ?_⟩
          obtain ⟨φ', cv, e1, e2, e3, e4⟩ := hb
          obtain ⟨φ2, m1, m2, m3⟩ := hc.rel hr e2 e3 e4
          exact ⟨φ2, cv, e1, m1, m2, m3⟩
      · exact (hE w0).prim g q hq cf hcf args S v S' hp φ w vs hr hv }
/-- new objects that nothing leads to -/
theorem Conv.junk {S T : Store} {v u : AV} (hp : S <+: T) (h : Cv T (fun i => if i < S.length then some i else none) v u) : Conv S T v S u := by
  obtain ⟨U, rfl⟩ := hp
  refine ⟨fun i => if i < S.length then some i else none, fun i => i, fun i h => if_pos h, fun i i' h => ?_, fun i' h => ⟨by simp; omega, if_pos h⟩, fun i' x' h => .inl ⟨(List.getElem?_eq_some_iff.1 h).1, h, ?_⟩, h⟩
  · simp only at h
    split at h
    · cases h; rename_i h; exact ⟨h, rfl⟩
    · cases h
  · rw [List.getElem?_append_left (List.getElem?_eq_some_iff.1 h).1]; exact h
inductive Cvs (S : Store) (ρ : Nat → Option Nat) : List AV → List AV → Prop
  | nil : Cvs S ρ [] []
  | cons {v u : AV} {l m : List AV} (h : Cv S ρ v u) (k : Cvs S ρ l m) : Cvs S ρ (v :: l) (u :: m)
theorem Cvs.two {S : Store} {ρ : Nat → Option Nat} {cs ds : List AV} (h : Cvs S ρ cs ds) : cs.length = ds.length ∧ ∀ (j : Nat) (v u : AV), cs[j]? = some v → ds[j]? = some u → Cv S ρ v u := by
  induction h with
  | nil => exact ⟨rfl, fun j v u a => by simp at a⟩
  | cons h k ih =>
    refine ⟨by simp [ih.1], fun j v u a b => ?_⟩
    cases j with
    | zero => simp at a b; subst a; subst b; exact h
    | succ j => simp at a b; exact ih.2 j v u a b
theorem Cv.aggOf {S : Store} {ρ : Nat → Option Nat} {cs ds : List AV} (h : Cvs S ρ cs ds) : Cv S ρ (.agg cs) (.agg ds) := .agg h.two.1 h.two.2

/-- a text of bytes on the other side -/
theorem fl_b2s {ins : List AIns} {L : List AV} {R : Trc} {i j : Nat} {dst : Option Nat} {x : AX} {gd : Option (Nat × Bool)} {gi gj : Frame} {Si Sj : Store} {k : Nat}
    (hk : (if i < j then j + 1 else j) = k) (h1 : ins[i]? = some ⟨dst, .b2s x, gd⟩) (h2 : R[i]? = some (gi, Si)) (h3 : R[k]? = some (gj, Sj)) (h : b2sA Sj (ev gi (L.take i) x) = some (L.getD i .undef)) : flOne ins L R i j := by
  unfold flOne
  rw [hk, h1, h2, h3]
  have key : aop0 Sj (ev gi (L.take i)) (.b2s x) = (b2sA Sj (ev gi (L.take i) x)).map fun v => (v, Sj) := by
    simp only [aop0, aop, b2sA]
    generalize ev gi (L.take i) x = a
    cases a <;> simp [Option.map_bind, Function.comp_def]
  exact .inr ⟨Sj, by simp only [key, h]; rfl⟩

/-! a store with one object turned, and new ones behind -/
theorem get_oldS {S : Store} {id : Nat} {o x : AObj} (h : S[id]? = some o) (l : List AObj) : (S.set id x ++ l)[id]? = some x := by
  have := (List.getElem?_eq_some_iff.1 h).1
  rw [List.getElem?_append_left (by simpa using this), List.getElem?_set_self this]
theorem set_oldS {S : Store} {id : Nat} {o : AObj} (h : S[id]? = some o) (x y : AObj) (l : List AObj) : (S.set id x ++ l).set id y = S.set id y ++ l := by
  have := (List.getElem?_eq_some_iff.1 h).1
  rw [List.set_append_left _ _ (by simpa using this), List.set_set]
theorem get_newS (S : Store) (id : Nat) (x : AObj) (l : List AObj) (k : Nat) : (S.set id x ++ l)[S.length + k]? = l[k]? := by
  have := get_new (S.set id x) l k; rwa [List.length_set] at this
theorem get_newS0 (S : Store) (id : Nat) (x : AObj) (l : List AObj) : (S.set id x ++ l)[S.length]? = l[0]? := get_newS S id x l 0
theorem set_newS (S : Store) (id : Nat) (x : AObj) (l : List AObj) (k : Nat) (o : AObj) : (S.set id x ++ l).set (S.length + k) o = S.set id x ++ l.set k o := by
  have := set_new (S.set id x) l k o; rwa [List.length_set] at this
theorem set_newS0 (S : Store) (id : Nat) (x : AObj) (l : List AObj) (o : AObj) : (S.set id x ++ l).set S.length o = S.set id x ++ l.set 0 o := set_newS S id x l 0 o
theorem set_self {S : Store} {id : Nat} {o : AObj} (h : S[id]? = some o) : S.set id o = S := by
  obtain ⟨hh, e⟩ := List.getElem?_eq_some_iff.1 h
  rw [← e]; exact List.set_getElem_self hh
attribute [go_sem] get_newS get_newS0 set_newS set_newS0
theorem gset {S : Store} {id : Nat} {o x : AObj} (h : S[id]? = some o) : (S.set id x)[id]? = some x := List.getElem?_set_self (List.getElem?_eq_some_iff.1 h).1
end Go.Proofs.YtaajlbbooneiiaaDoor.Avm
set_option linter.unusedVariables false
set_option linter.unusedSimpArgs false
set_option linter.unusedSectionVars false
namespace Go.Proofs.YtaajlbbooneiiaaDoor.Avm
open Go.RowKit

theorem killL_ne : ∀ (ids : List Nat) (T : Store) (i : Nat), i ∉ ids → (killL ids T)[i]? = T[i]?
  | [], _, _, _ => rfl
  | j :: ids, T, i, h => by
    simp only [List.mem_cons, not_or] at h
    rw [killL_cons, killL_ne ids _ i h.2, List.getElem?_set_ne (fun e => h.1 e.symm)]
def thawV (S : Store) (ids : List Nat) : AV → AV
  | .sl id off n sz => if ids.contains id then (rdS S (.sl id off n sz)).getD (.sl id off n sz) else .sl id off n sz
  | v => v
def thawO (S : Store) (ids : List Nat) : AObj → AObj
  | .cells cs => .cells (cs.map (thawV S ids))
  | o => o
def killH (ids : List Nat) (S : Store) : Store := killL ids (S.map (thawO S ids))
theorem thawV_nil (S : Store) (v : AV) : thawV S [] v = v := by cases v <;> rfl
theorem thawO_nil (S : Store) (o : AObj) : thawO S [] o = o := by
  cases o with
  | cells cs => simp only [thawO]; congr 1; exact (List.map_congr_left fun v _ => thawV_nil S v).trans (List.map_id' cs)
  | _ => rfl
theorem killH_nil (S : Store) : killH [] S = S := by
  show S.map (thawO S []) = S
  exact (List.map_congr_left fun v _ => thawO_nil S v).trans (List.map_id' S)
theorem live_thaw {S : Store} {ids : List Nat} {o : AObj} : live (thawO S ids o) ↔ live o := by cases o <;> exact Iff.rfl
theorem killH_get {ids : List Nat} {S : Store} {i : Nat} {x : AObj} (h : (killH ids S)[i]? = some x) (hl : live x) : ∃ x', S[i]? = some x' ∧ x = thawO S ids x' ∧ i ∉ ids ∧ live x' := by
  obtain ⟨h1, h2⟩ := killL_get ids _ i x h hl
  rw [List.getElem?_map] at h1
  obtain ⟨x', k1, rfl⟩ := Option.map_eq_some_iff.1 h1
  exact ⟨x', k1, rfl, h2, live_thaw.1 hl⟩
theorem Rel.giveH {w0 w : World} {φ : Pc} {S : Store} (hr : Rel w0 φ S w) (ids : List Nat) :
    ∃ φ', Ext φ φ' ∧ Rel w0 φ' (killH ids S) w ∧ ∀ i, i ∈ ids → ∀ (p : Pl) (x : AObj) (a : Addr) (cv : Value), φ.pl[i]? = some p → S[i]? = some x → live x → a.block = p.b → w.cell? a = some cv → φ'.fz a = some cv := by
  obtain ⟨φ', hx, hR, hg⟩ := hr.give ids
  have hpl : φ'.pl.length = φ.pl.length := by rw [hR.len, killL_len, hr.len]
  have hpe : ∀ (i : Nat) (p : Pl), φ'.pl[i]? = some p → φ.pl[i]? = some p := fun i p h => by
    have hi : i < φ.pl.length := by rw [← hpl]; exact (List.getElem?_eq_some_iff.1 h).1
    have := hx.pl i _ (List.getElem?_eq_getElem hi)
    rw [h] at this; cases this; exact List.getElem?_eq_getElem hi
  have old : ∀ (i : Nat) (x' : AObj), S[i]? = some x' → i ∉ ids → (killL ids S)[i]? = some x' := fun i x' h hi => by rw [killL_ne ids S i hi]; exact h
  refine ⟨φ', hx, ⟨hR.below, by rw [hR.len, killL_len, killH, killL_len, List.length_map], hR.fz, fun a cv i p x ha hp hS hl => ?_, fun i j p q x y hp hq hS hT lx ly hb => ?_, fun i p x hp hS => ?_⟩, hg⟩
  · obtain ⟨x', k1, k2, k3, k4⟩ := killH_get hS hl
    exact hR.fzb a cv i p x' ha hp (old i x' k1 k3) k4
  · obtain ⟨x', k1, k2, k3, k4⟩ := killH_get hS lx
    obtain ⟨y', m1, m2, m3, m4⟩ := killH_get hT ly
    exact hR.inj i j p q x' y' hp hq (old i x' k1 k3) (old j y' m1 m3) k4 m4 hb
  · by_cases hl : live x
    · obtain ⟨x', k1, rfl, k3, k4⟩ := killH_get hS hl
      have ho := hR.obj i p x' hp (old i x' k1 k3)
      cases x' with
      | cells cs =>
        have ho0 := hr.obj i p _ (hpe i p hp) k1
        obtain ⟨h1, h2, ccs, e, fr, h3, h4, h5, h6, h7⟩ := ho0
        refine ⟨by simpa using h1, h2, ccs, e, fr, h3, h4, h5, by simpa using h6, fun j v hv => ?_⟩
        rw [List.getElem?_map] at hv
        obtain ⟨v', kv, rfl⟩ := Option.map_eq_some_iff.1 hv
        obtain ⟨cv, a1, a2, a3⟩ := h7 j v' kv
        refine ⟨cv, a1, ?_, a3⟩
        cases v' with
        | sl id off n sz =>
          simp only [thawV]
          split
          · rename_i hid
            cases hrd : rdS S (.sl id off n sz) with
            | none => exact a2.mono hx
            | some u =>
              rw [Option.getD_some]
              exact rdS_V hr hx.fz (fun i hi => hg i (by simp only [topIds, List.mem_singleton] at hi; subst hi; simpa using hid)) hrd a2
          · exact a2.mono hx
        | _ => exact a2.mono hx
      | map es => exact ho
      | chan c b => exact ho
      | dead => exact ho
    · cases x <;> first | trivial | exact absurd trivial hl

noncomputable section
open Classical
variable {α : Type}
def primH (enc : α → List AV) (res : α → Option AV) (args : List AV) (S : Store) : Option (AV × Store) :=
  if h : ∃ a, rdSL S args = some (enc a) then (res h.choose).map fun v => (v, killH (topIdsL args) S) else none
end
section
variable {α : Type} {enc : α → List AV} {res : α → Option AV} {args : List AV} {S S' : Store} {a : α} {v : AV}
theorem primH_eq (hi : Inj enc) (h : rdSL S args = some (enc a)) (hr : res a = some v) : primH enc res args S = some (v, killH (topIdsL args) S) := by
  have he : ∃ a, rdSL S args = some (enc a) := ⟨a, h⟩
  have : he.choose = a := hi _ _ (Option.some.inj (he.choose_spec.symm.trans h))
  unfold primH; rw [dif_pos he, this, hr]; rfl
theorem primH_inv (h : primH enc res args S = some (v, S')) : ∃ a, rdSL S args = some (enc a) ∧ res a = some v ∧ S' = killH (topIdsL args) S := by
  unfold primH at h
  split at h
  · rename_i he
    obtain ⟨u, h1, h2⟩ := Option.map_eq_some_iff.1 h
    cases h2; exact ⟨_, he.choose_spec, h1, rfl⟩
  · cases h
theorem callH {E : Env} {f : Nat} {k : α → Prop} {r : α → AV} {K : AV → Store → Prop} {d : Dm K} (h : E.prim f = some fun _ => primH enc (gd k r)) (hi : Inj enc) (hr : rdSL S args = some (enc a)) (hk : k a) : SpD E f args S K d = K (r a) (killH (topIdsL args) S) :=
  Is.spD (Is.prim h (primH_eq hi hr (gd_eq hk))) K d
end
theorem AllOK.addH {P : Program} {E : Env} (hmix : P.follows .mixedOrders = true) (hE : AllOK P E) {α : Type} {enc : α → List AV} {res : α → Option AV} {f : Nat} (h : OkG E f enc res) : AllOK P (E.add f (primH enc res)) := fun w0 =>
  { fn := (hE w0).fn
    prim := fun g q hq cf hcf args S v S' hp φ w vs hr hv => by
      simp only [Env.add] at hq
      split at hq
      · rename_i hg; subst hg; cases hq
        obtain ⟨a, h1, h2, rfl⟩ := primH_inv hp
        obtain ⟨φ1, g1, g2, g3⟩ := hr.giveH (topIdsL args)
        obtain ⟨v1, S1, ⟨N, hN⟩, hc⟩ := h a v (killH (topIdsL args) S) h2
        have hv0 : Vs w0 φ1 (enc a) vs := rdSL_V hr g1.fz g3 h1 hv
        rcases run_ok hmix (hE w0) N g (enc a) _ v1 S1 (hN N (Nat.le_refl _)) _ w vs g2 hv0 with k | ⟨f, bs, w1, k1, k2⟩
        · obtain ⟨φ', cv, w', k1, k2, k3, k4⟩ := k
          obtain ⟨φ2, m1, m2, m3⟩ := hc.rel g2 k2 k3 k4
          exact .inl ⟨φ2, cv, w', k1, g1.trans m1, m2, m3⟩
        · refine .inr ⟨f, bs, w1, k1, k2.mono fun e w' hb => ?_⟩
          obtain ⟨φ', cv, e1, e2, e3, e4⟩ := hb
          obtain ⟨φ2, m1, m2, m3⟩ := hc.rel g2 e2 e3 e4
          exact ⟨φ2, cv, e1, g1.trans m1, m2, m3⟩
      · exact (hE w0).prim g q hq cf hcf args S v S' hp φ w vs hr hv }

/-- rows that a store's objects lead to are in it -/
def Wf (S : Store) : Prop := ∀ (i : Nat) (cs : List AV), S[i]? = some (.cells cs) → ∀ (id off n sz : Nat), AV.sl id off n sz ∈ cs → id < S.length
theorem Rel.wf {w0 w : World} {φ : Pc} {S : Store} (hr : Rel w0 φ S w) : Wf S := fun i cs h id off n sz hm => by
  obtain ⟨p, hp⟩ := hr.place h
  obtain ⟨h1, h2, ccs, e, fr, h3, h4, h5, h6, h7⟩ := hr.obj i p _ hp h
  obtain ⟨j, hj, he⟩ := List.getElem_of_mem hm
  obtain ⟨cv, _, a2, _⟩ := h7 j _ (by rw [List.getElem?_eq_getElem hj, he])
  obtain ⟨a, c, q, _, hq, _⟩ := a2.sl_inv
  rw [← hr.len]; exact (List.getElem?_eq_some_iff.1 hq).1
def OkGW {α : Type} (E : Env) (f : Nat) (enc : α → List AV) (res : α → Option AV) : Prop := ∀ a v S, Wf S → res a = some v → ∃ v1 S1, Is E f (enc a) S v1 S1 ∧ Conv S S1 v1 S v
theorem OkGW.code {α : Type} {E : Env} {f : Nat} {fn : AFunc} {enc : α → List AV} {k : α → Prop} {r : α → AV} (hp : E.prim f = none) (hf : E.F f = some fn) (hl : ∀ a, (enc a).length = fn.np) (h : ∀ a S, Wf S → k a → wpC E fn.body (initA (enc a)) S (fin fn.res fun v T => Conv S T v S (r a)) .mk) : OkGW E f enc (gd k r) := fun a v S hw hv => by
  obtain ⟨hk, rfl⟩ := gd_inv hv
  obtain ⟨v, S', hc, hi⟩ := Sp.intro hp hf (hl a) (h a S hw hk)
  exact ⟨v, S', hi, hc⟩
theorem AllOK.addGW {P : Program} {E : Env} (hmix : P.follows .mixedOrders = true) (hE : AllOK P E) {α : Type} {enc : α → List AV} {res : α → Option AV} {f : Nat} (h : OkGW E f enc res) : AllOK P (E.add f (primG enc res)) := fun w0 =>
  { fn := (hE w0).fn
    prim := fun g q hq cf hcf args S v S' hp φ w vs hr hv => by
      simp only [Env.add] at hq
      split at hq
      · rename_i hg; subst hg; cases hq
        obtain ⟨a, h1, h2, rfl⟩ := primG_inv hp
        obtain ⟨φ1, g1, g2, g3⟩ := hr.give (topIdsL args)
        obtain ⟨v1, S1, ⟨N, hN⟩, hc⟩ := h a v (killL (topIdsL args) S) g2.wf h2
        have hv0 : Vs w0 φ1 (enc a) vs := rdSL_V hr g1.fz g3 h1 hv
        rcases run_ok hmix (hE w0) N g (enc a) _ v1 S1 (hN N (Nat.le_refl _)) _ w vs g2 hv0 with k | ⟨f, bs, w1, k1, k2⟩
        · obtain ⟨φ', cv, w', k1, k2, k3, k4⟩ := k
          obtain ⟨φ2, m1, m2, m3⟩ := hc.rel g2 k2 k3 k4
          exact .inl ⟨φ2, cv, w', k1, g1.trans m1, m2, m3⟩
        · refine .inr ⟨f, bs, w1, k1, k2.mono fun e w' hb => ?_⟩
          obtain ⟨φ', cv, e1, e2, e3, e4⟩ := hb
          obtain ⟨φ2, m1, m2, m3⟩ := hc.rel g2 e2 e3 e4
          exact ⟨φ2, cv, e1, g1.trans m1, m2, m3⟩
      · exact (hE w0).prim g q hq cf hcf args S v S' hp φ w vs hr hv }
/-- objects that lead to none of the rows stay as they are -/
theorem thawO_same {T : Store} {ids : List Nat} {o : AObj} (h : ∀ cs, o = .cells cs → ∀ (id off n sz : Nat), AV.sl id off n sz ∈ cs → id ∉ ids) : thawO T ids o = o := by
  cases o with
  | cells cs =>
    simp only [thawO]; congr 1
    refine (List.map_congr_left fun v hv => ?_).trans (List.map_id' cs)
    cases v with
    | sl id off n sz => simp only [thawV]; rw [if_neg (by simpa using h cs rfl id off n sz hv)]
    | _ => rfl
  | _ => rfl
theorem map_thaw {S T : Store} {ids : List Nat} (hw : Wf S) (h : ∀ i, i ∈ ids → S.length ≤ i) : S.map (thawO T ids) = S := by
  refine (List.map_congr_left fun o ho => ?_).trans (List.map_id' S)
  obtain ⟨i, hi, rfl⟩ := List.getElem_of_mem ho
  refine thawO_same fun cs hc id off n sz hm hid => ?_
  have h1 := hw i cs (by rw [List.getElem?_eq_getElem hi, hc]) id off n sz hm
  have h2 := h id hid
  omega
end Go.Proofs.YtaajlbbooneiiaaDoor.Avm
set_option linter.unusedVariables false
namespace Go.Proofs.YtaajlbbooneiiaaDoor.Avm
open Go.RowKit
/-- a function by a contract of its own -/
def PrimC (P : Program) (f : Nat) (p : List AV → Store → Option (AV × Store)) : Prop :=
  ∀ (args : List AV) (S : Store) (v : AV) (S' : Store), p args S = some (v, S') → ∀ (w0 w : World) (φ : Pc) (vs : List Value), Rel w0 φ S w → Vs w0 φ args vs → Does P w0 φ S' v ((callFunc f vs.toArray).run P w)
theorem AllOK.addC {P : Program} {E : Env} (hE : AllOK P E) {f : Nat} {p : List AV → Store → Option (AV × Store)} (h : PrimC P f p) : AllOK P (E.add f p) := fun w0 =>
  { fn := (hE w0).fn
    prim := fun g q hq cf hcf args S v S' hp φ w vs hr hv => by
      simp only [Env.add] at hq
      split at hq
      · rename_i hg; subst hg; cases hq
        exact h args S v S' hp w0 w φ vs hr hv
      · exact (hE w0).prim g q hq cf hcf args S v S' hp φ w vs hr hv }

def strsOf : List AV → Option (List (List UInt8))
  | [] => some []
  | .str s :: l => (strsOf l).map (s :: ·)
  | _ :: _ => none
theorem strsOf_V {w0 : World} {φ : Pc} : ∀ {cs : List AV} {cvs : List Value} {xs : List (List UInt8)}, strsOf cs = some xs → Vs w0 φ cs cvs → ∃ bs : List ByteArray, bs.map (·.data.toList) = xs ∧ cvs = bs.map Value.string
  | [], cvs, xs, h, hv => by
    cases h
    obtain rfl : cvs = [] := List.length_eq_zero_iff.1 hv.1.symm
    exact ⟨[], rfl, rfl⟩
  | v :: cs, cvs, xs, h, hv => by
    obtain ⟨cv, cvs, rfl, h1, h2⟩ := hv.cons_inv
    cases v <;> simp only [strsOf, reduceCtorEq, Option.map_eq_some_iff] at h
    obtain ⟨ys, hy, rfl⟩ := h
    obtain ⟨bs, rfl, rfl⟩ := strsOf_V hy h2
    cases h1 with
    | str s => exact ⟨s :: bs, rfl, rfl⟩

def joinP (args : List AV) (S : Store) : Option (AV × Store) :=
  match args with
  | [.csl cs n, .str sep] => (strsOf (cs.take n)).bind fun xs => if 1 ≤ n ∧ xs.length = n ∧ n ≤ 100 ∧ (Lib.join xs sep).length ≤ 1000 then some (.str (Lib.join xs sep), S) else none
  | _ => none
def itoaP (args : List AV) (S : Store) : Option (AV × Store) :=
  match args with
  | [.int .i64 n] => if 10 ≤ n ∧ n < 100 then some (.str [UInt8.ofNat (48 + n.toNat / 10), UInt8.ofNat (48 + n.toNat % 10)], S) else none
  | _ => none

theorem V.strL {w0 : World} {φ : Pc} (l : List UInt8) : V w0 φ (.str l) (.string ⟨l.toArray⟩) := by
  have := V.str (w0 := w0) (φ := φ) ⟨l.toArray⟩
  simpa using this

theorem join_ok {P : Program} {f : Nat} (he : Enters P f)
    (h : ∀ (bk o c : Nat) (xs : List ByteArray) (sep : ByteArray) (w : World), (∀ (j : Nat) x, xs[j]? = some x → w.cell? ⟨bk, o + j, none⟩ = some (.string x)) → bk < w.heap.size → xs.length ≤ 140737488355328 → xs.length ≤ c →
      (Lib.join (xs.map (·.data.toList)) sep.data.toList).length ≤ 140737488355328 →
      Calls P f #[.slice (some ⟨bk, o, none⟩) xs.length c, .string sep] w fun e w' => e = .returned (.string ⟨(Lib.join (xs.map (·.data.toList)) sep.data.toList).toArray⟩) ∧ Below w.heap.size w w') : PrimC P f joinP := by
  intro args S v S' hp w0 w φ vs hr hv
  unfold joinP at hp
  split at hp
  · rename_i cs n sep
    obtain ⟨xs, hxs, hp⟩ := Option.bind_eq_some_iff.1 hp
    split at hp
    · rename_i hc
      cases hp
      obtain ⟨cv0, _, rfl, v0, hv⟩ := hv.cons_inv
      obtain ⟨cv1, _, rfl, v1, hv⟩ := hv.cons_inv
      obtain rfl := List.length_eq_zero_iff.1 hv.1.symm
      cases v1 with
      | str sep =>
      cases v0 with
      | csl0 => simp at hc
      | @csl cs cvs a n c hl hcf hV ho hn =>
        obtain ⟨bs, hb, hcv⟩ := strsOf_V hxs (Vs.take ⟨hl, hV⟩ n)
        subst hb
        rw [List.length_map] at hc
        have hcell : ∀ (j : Nat) x, bs[j]? = some x → w.cell? (a.add j) = some (.string x) := fun j x hj => hr.fz _ _ (hcf j _ (by
          have : (cvs.take n)[j]? = some (.string x) := by rw [hcv, List.getElem?_map, hj]; rfl
          rw [List.getElem?_take] at this
          split at this
          · exact this
          · cases this))
        obtain ⟨x0, hx0⟩ : ∃ x, bs[0]? = some x := ⟨bs[0]'(by omega), List.getElem?_eq_getElem (by omega)⟩
        have h0 := hcell 0 x0 hx0
        obtain ⟨b, o, spot⟩ := a
        simp only [Addr.add, if_true] at h0
        have hs : spot = none ∧ b < w.heap.size := by
          unfold World.cell? at h0
          dsimp only at h0
          split at h0
          · rename_i hw
            split at h0
            · cases h0
            · rename_i hn
              exact ⟨by simpa using hn, (Array.getElem?_eq_some_iff.1 hw).1⟩
          · cases h0
        obtain ⟨rfl, hb⟩ := hs
        have hlen := hc.2.1
        refine .inr ⟨f, _, w, he _ _, ?_⟩
        rw [← hlen]
        refine (h b o c bs sep w (fun j x hj => ?_) hb (by omega) (by omega) (by omega)).mono fun e w' hh => ?_
        · have := hcell j x hj
          simp only [Addr.add] at this
          split at this
          · rename_i e; subst e; exact this
          · exact this
        · obtain ⟨rfl, hB⟩ := hh
          exact ⟨φ, _, rfl, .refl _, hr.later hB, .strL _⟩
    · cases hp
  · cases hp

theorem itoa_ok {P : Program} {f : Nat} (he : Enters P f) (h : ∀ (i : Nat) (w : World), i < 100 → Calls P f #[.int .i64 i] w fun e w' => e = .returned (.string ⟨(Lib.decDigits i).toArray⟩) ∧ w' = w) : PrimC P f itoaP := by
  intro args S v S' hp w0 w φ vs hr hv
  unfold itoaP at hp
  split at hp
  · rename_i n
    split at hp
    · rename_i hc
      cases hp
      obtain ⟨cv0, _, rfl, v0, hv⟩ := hv.cons_inv
      obtain rfl := List.length_eq_zero_iff.1 hv.1.symm
      cases v0 with
      | int k n =>
      obtain ⟨i, rfl⟩ : ∃ i : Nat, n = i := ⟨n.toNat, by omega⟩
      refine .inr ⟨f, _, w, he _ _, (h i w (by omega)).mono fun e w' hh => ?_⟩
      obtain ⟨rfl, rfl⟩ := hh
      refine ⟨φ, _, rfl, .refl _, hr, ?_⟩
      have : Lib.decDigits i = [UInt8.ofNat (48 + i / 10), UInt8.ofNat (48 + i % 10)] := by
        rw [Lib.decDigits, dif_neg (by omega), Lib.decDigits, dif_pos (by omega)]; rfl
      rw [this]
      exact .strL _
    · cases hp
  · cases hp
end Go.Proofs.YtaajlbbooneiiaaDoor.Avm
set_option linter.unusedVariables false
namespace Go.Proofs.YtaajlbbooneiiaaDoor.Avm
open Go.Shelf
def lays156_ren : Go.Shelf.Ren := ⟨fun | 156 => 58 | 165 => 72 | 166 => 73 | 169 => 74 | 240 => 86 | 241 => 87 | 276 => 90 | 277 => 91 | n => n, fun | 31 => 98 | 9 => 9 | 3 => 3 | 4 => 4 | 0 => 0 | 20 => 20 | 72 => 115 | 76 => 119 | 70 => 113 | 37 => 22 | 75 => 118 | 127 => 129 | 164 => 132 | 5 => 5 | 80 => 121 | n => n, fun | n => n⟩
theorem lays156 : Go.Proofs.Lays.n156 Tryd.prog lays156_ren := {
  mixed := by kernel_rfl
  f156 := Tryd.func58.trans (congrArg some (by kernel_rfl))
  f165 := Tryd.func72.trans (congrArg some (by kernel_rfl))
  f166 := Tryd.func73.trans (congrArg some (by kernel_rfl))
  f169 := Tryd.func74.trans (congrArg some (by kernel_rfl))
  f240 := Tryd.func86.trans (congrArg some (by kernel_rfl))
  f241 := Tryd.func87.trans (congrArg some (by kernel_rfl))
  f276 := Tryd.func90.trans (congrArg some (by kernel_rfl))
  f277 := Tryd.func91.trans (congrArg some (by kernel_rfl))
  t0 := Tryd.underlying0
  a0 := Tryd.isAgg0
  z0 := Tryd.sizeOf0
  v0 := Tryd.zeroValue0
  t3 := Tryd.underlying3
  a3 := Tryd.isAgg3
  z3 := Tryd.sizeOf3
  v3 := Tryd.zeroValue3
  t4 := Tryd.underlying4
  a4 := Tryd.isAgg4
  z4 := Tryd.sizeOf4
  v4 := Tryd.zeroValue4
  t9 := Tryd.underlying9
  a9 := Tryd.isAgg9
  z9 := Tryd.sizeOf9
  v9 := Tryd.zeroValue9
  t20 := Tryd.underlying20
  a20 := Tryd.isAgg20
  z20 := Tryd.sizeOf20
  v20 := Tryd.zeroValue20
  t31 := Tryd.underlying98
  a31 := Tryd.isAgg98
  z31 := Tryd.sizeOf98
  v31 := Tryd.zeroValue98
  t37 := Tryd.underlying22
  a37 := Tryd.isAgg22
  z37 := Tryd.sizeOf22
  v37 := Tryd.zeroValue22
  t70 := Tryd.underlying113
  a70 := Tryd.isAgg113
  z70 := Tryd.sizeOf113
  v70 := Tryd.zeroValue113
  t72 := Tryd.underlying115
  a72 := Tryd.isAgg115
  z72 := Tryd.sizeOf115
  v72 := Tryd.zeroValue115
  t75 := Tryd.underlying118
  a75 := Tryd.isAgg118
  z75 := Tryd.sizeOf118
  v75 := Tryd.zeroValue118
  t76 := Tryd.underlying119
  a76 := Tryd.isAgg119
  z76 := Tryd.sizeOf119
  v76 := Tryd.zeroValue119
  t127 := Tryd.underlying129
  a127 := Tryd.isAgg129
  z127 := Tryd.sizeOf129
  v127 := Tryd.zeroValue129
  t164 := Tryd.underlying132
  a164 := Tryd.isAgg132
  z164 := Tryd.sizeOf132
  v164 := Tryd.zeroValue132 }
theorem Builder_Extra_156 : Builder.Extra Tryd.prog lays156_ren := {
  sizeBuilder := by kernel_rfl
  liesBuilder := by kernel_rfl
  t5 := Tryd.underlying5
  a5 := Tryd.isAgg5
  z5 := Tryd.sizeOf5
  v5 := Tryd.zeroValue5
  infoByte := by kernel_rfl
  cellsByte := by kernel_rfl
  sizeByte := by kernel_rfl
  neB5 := by decide }
section
open Go.RowKit
theorem strings_Join (bk o c : Nat) (xs : List ByteArray) (sep : ByteArray) (w : World) (hcells : ∀ (j : Nat) x, xs[j]? = some x → w.cell? ⟨bk, o + j, none⟩ = some (.string x)) (hbk : bk < w.heap.size) (hN : xs.length ≤ 140737488355328) (hcap : xs.length ≤ c) (hlen : (Lib.join (xs.map (·.data.toList)) sep.data.toList).length ≤ 140737488355328) :
    Calls Tryd.prog 58 #[.slice (some ⟨bk, o, none⟩) xs.length c, .string sep] w fun e w' => e = .returned (.string ⟨(Lib.join (xs.map (·.data.toList)) sep.data.toList).toArray⟩) ∧ Below w.heap.size w w' := Any.strings_Join lays156 Builder_Extra_156 bk o c xs sep w hcells hbk hN hcap hlen
end
def lays171_ren : Go.Shelf.Ren := ⟨fun | 171 => 59 | 243 => 75 | 246 => 88 | 283 => 92 | 284 => 93 | 285 => 94 | 286 => 95 | 129 => 97 | 317 => 96 | 318 => 98 | 319 => 99 | 320 => 100 | 337 => 101 | 338 => 102 | n => n, fun | 3 => 3 | 9 => 9 | 2 => 2 | 4 => 4 | 171 => 134 | 0 => 0 | 53 => 100 | 37 => 22 | 5 => 5 | 173 => 137 | 212 => 140 | 51 => 141 | 20 => 20 | 213 => 142 | 46 => 101 | 232 => 145 | 233 => 146 | n => n, fun | 17 => 1 | 18 => 2 | 19 => 3 | n => n⟩
theorem lays171 : Go.Proofs.Lays.n171 Tryd.prog lays171_ren := {
  mixed := by kernel_rfl
  f129 := Tryd.func97.trans (congrArg some (by kernel_rfl))
  f171 := Tryd.func59.trans (congrArg some (by kernel_rfl))
  f243 := Tryd.func75.trans (congrArg some (by kernel_rfl))
  f246 := Tryd.func88.trans (congrArg some (by kernel_rfl))
  f283 := Tryd.func92.trans (congrArg some (by kernel_rfl))
  f284 := Tryd.func93.trans (congrArg some (by kernel_rfl))
  f285 := Tryd.func94.trans (congrArg some (by kernel_rfl))
  f286 := Tryd.func95.trans (congrArg some (by kernel_rfl))
  f317 := Tryd.func96.trans (congrArg some (by kernel_rfl))
  f318 := Tryd.func98.trans (congrArg some (by kernel_rfl))
  f319 := Tryd.func99.trans (congrArg some (by kernel_rfl))
  f320 := Tryd.func100.trans (congrArg some (by kernel_rfl))
  f337 := Tryd.func101.trans (congrArg some (by kernel_rfl))
  f338 := Tryd.func102.trans (congrArg some (by kernel_rfl))
  t0 := Tryd.underlying0
  a0 := Tryd.isAgg0
  z0 := Tryd.sizeOf0
  v0 := Tryd.zeroValue0
  t2 := Tryd.underlying2
  a2 := Tryd.isAgg2
  z2 := Tryd.sizeOf2
  v2 := Tryd.zeroValue2
  t3 := Tryd.underlying3
  a3 := Tryd.isAgg3
  z3 := Tryd.sizeOf3
  v3 := Tryd.zeroValue3
  t4 := Tryd.underlying4
  a4 := Tryd.isAgg4
  z4 := Tryd.sizeOf4
  v4 := Tryd.zeroValue4
  t5 := Tryd.underlying5
  a5 := Tryd.isAgg5
  z5 := Tryd.sizeOf5
  v5 := Tryd.zeroValue5
  t9 := Tryd.underlying9
  a9 := Tryd.isAgg9
  z9 := Tryd.sizeOf9
  v9 := Tryd.zeroValue9
  t20 := Tryd.underlying20
  a20 := Tryd.isAgg20
  z20 := Tryd.sizeOf20
  v20 := Tryd.zeroValue20
  t37 := Tryd.underlying22
  a37 := Tryd.isAgg22
  z37 := Tryd.sizeOf22
  v37 := Tryd.zeroValue22
  t46 := Tryd.underlying101
  a46 := Tryd.isAgg101
  z46 := Tryd.sizeOf101
  v46 := Tryd.zeroValue101
  t51 := Tryd.underlying141
  a51 := Tryd.isAgg141
  z51 := Tryd.sizeOf141
  v51 := Tryd.zeroValue141
  t53 := Tryd.underlying100
  a53 := Tryd.isAgg100
  z53 := Tryd.sizeOf100
  v53 := Tryd.zeroValue100
  t171 := Tryd.underlying134
  a171 := Tryd.isAgg134
  z171 := Tryd.sizeOf134
  v171 := Tryd.zeroValue134
  t173 := Tryd.underlying137
  a173 := Tryd.isAgg137
  z173 := Tryd.sizeOf137
  v173 := Tryd.zeroValue137
  t212 := Tryd.underlying140
  a212 := Tryd.isAgg140
  z212 := Tryd.sizeOf140
  v212 := Tryd.zeroValue140
  t213 := Tryd.underlying142
  a213 := Tryd.isAgg142
  z213 := Tryd.sizeOf142
  t232 := Tryd.underlying145
  a232 := Tryd.isAgg145
  z232 := Tryd.sizeOf145
  v232 := Tryd.zeroValue145
  t233 := Tryd.underlying146
  a233 := Tryd.isAgg146
  z233 := Tryd.sizeOf146
  v233 := Tryd.zeroValue146
  g17 := by kernel_rfl
  g18 := by kernel_rfl
  g19 := by kernel_rfl }
section
open Go.RowKit Go.Sort Go.Lib
theorem strconv_Itoa_small (i : Nat) (hi : i < 100) (w : World) :
    Calls Tryd.prog 59 #[.int .i64 i] w fun e w' => e = .returned (.string ⟨(Lib.decDigits i).toArray⟩) ∧ w' = w := Any.strconv_Itoa_small lays171 i hi w
end
end Go.Proofs.YtaajlbbooneiiaaDoor.Avm
set_option linter.unusedVariables false
set_option linter.unusedSimpArgs false
namespace Go.Proofs.YtaajlbbooneiiaaDoor.Avm
abbrev Str := List UInt8

theorem rec_inj {α : Type} [Rec α] {a b : α} : Rec.c a = Rec.c b ↔ a = b := ⟨Rec.inj a b, fun h => by rw [h]⟩

structure Mem where
  name : Str
  role : Int
instance : Rec Mem where
  sz := 2
  c m := [.str m.name, .int .i64 m.role]
  len _ := rfl
  pos := by decide
  inj a b h := by cases a; cases b; simpa using h
  pure _ := rfl
@[go_sem] theorem c_mem (m : Mem) : Rec.c m = [.str m.name, .int .i64 m.role] := rfl
@[go_sem] theorem z_mem : Rec.sz Mem = 2 := rfl
instance : Rec Str where
  sz := 1
  c s := [.str s]
  len _ := rfl
  pos := by decide
  inj a b h := by simpa using h
  pure _ := rfl
@[go_sem] theorem c_Str (s : Str) : Rec.c s = [.str s] := rfl
@[go_sem] theorem z_Str : Rec.sz Str = 1 := rfl
instance : Rec Int where
  sz := 1
  c n := [.int .i64 n]
  len _ := rfl
  pos := by decide
  inj a b h := by simpa using h
  pure _ := rfl
@[go_sem] theorem c_Int (n : Int) : Rec.c n = [.int .i64 n] := rfl
@[go_sem] theorem z_Int : Rec.sz Int = 1 := rfl
instance : Rec UInt8 where
  sz := 1
  c n := [.int .u8 n.toNat]
  len _ := rfl
  pos := by decide
  inj a b h := by simp at h; exact UInt8.toNat_inj.1 (by omega)
  pure _ := rfl
@[go_sem] theorem c_u8 (n : UInt8) : Rec.c n = [.int .u8 n.toNat] := rfl
@[go_sem] theorem z_u8 : Rec.sz UInt8 = 1 := rfl
@[go_sem] theorem csl_i1 (a : Int) : AV.csl [.int .i64 a] 1 = enc [a] := rfl
@[go_sem] theorem csl_i2 (a b : Int) : AV.csl [.int .i64 a, .int .i64 b] 2 = enc [a, b] := rfl
@[go_sem] theorem csl_s1 (a : Str) : AV.csl [.str a] 1 = enc [a] := rfl
@[go_sem] theorem csl_m1 (a : Str) (n : Int) : AV.csl [.str a, .int .i64 n] 1 = enc [Mem.mk a n] := rfl

/-! texts in order -/
theorem bl_irrefl : ∀ a : Str, Op.bytesLess a a = false
  | [] => rfl
  | a :: x => by simp [Op.bytesLess, bl_irrefl x]
theorem bl_trans : ∀ a b c : Str, Op.bytesLess a b = true → Op.bytesLess b c = true → Op.bytesLess a c = true
  | _, [], _, h, _ => by simp [Op.bytesLess] at h
  | _, _ :: _, [], _, h => by simp [Op.bytesLess] at h
  | [], _ :: _, _ :: _, _, _ => rfl
  | a :: x, b :: y, c :: z, h, k => by
    simp only [Op.bytesLess, Bool.or_eq_true, decide_eq_true_eq, Bool.and_eq_true, beq_iff_eq] at h k ⊢
    rcases h with h | ⟨rfl, h⟩ <;> rcases k with k | ⟨rfl, k⟩
    · exact .inl (UInt8.lt_trans h k)
    · exact .inl h
    · exact .inl k
    · exact .inr ⟨rfl, bl_trans x y z h k⟩
theorem bl_tri : ∀ a b : Str, Op.bytesLess a b = false → Op.bytesLess b a = false → a = b
  | [], [], _, _ => rfl
  | [], _ :: _, h, _ => by simp [Op.bytesLess] at h
  | _ :: _, [], _, h => by simp [Op.bytesLess] at h
  | a :: x, b :: y, h, k => by
    simp only [Op.bytesLess, Bool.or_eq_false_iff, decide_eq_false_iff_not, Bool.and_eq_false_iff, beq_eq_false_iff_ne] at h k
    have hab : a = b := UInt8.le_antisymm (UInt8.not_lt.1 k.1) (UInt8.not_lt.1 h.1)
    subst hab
    rw [bl_tri x y (h.2.resolve_left (by simp)) (k.2.resolve_left (by simp))]
theorem bl_asymm {a b : Str} (h : Op.bytesLess a b = true) : Op.bytesLess b a = false := by
  cases k : Op.bytesLess b a with
  | false => rfl
  | true => have := bl_trans a b a h k; rw [bl_irrefl] at this; cases this

/-! what the functions answer -/
def isRole (r : Int) : Bool := decide (1 ≤ r ∧ r ≤ 4)
def nameCh (c : UInt8) : Bool := decide ((97 ≤ c.toNat ∧ c.toNat ≤ 122) ∨ (48 ≤ c.toNat ∧ c.toNat ≤ 57))
def nameOk (s : Str) : Bool := s.all nameCh && decide (1 ≤ s.length ∧ s.length ≤ 12)
def idxP {α : Type} (p : α → Bool) : Nat → List α → Int
  | _, [] => -1
  | i, m :: l => if p m = true then i else idxP p (i + 1) l
def atP (l : List Mem) (name : Str) : Int := idxP (fun m => decide (m.name = name)) 0 l
def ofP : List Mem → Str → Int
  | [], _ => 0
  | m :: l, name => if m.name = name then m.role else ofP l name
def withP (l : List Mem) (least : Int) : List Str := (l.filter fun m => decide (least ≤ m.role)).map (·.name)
def maxP : List Int → Int
  | [] => 0
  | a :: l => l.foldl (fun x y => if y > x then y else x) a
def highP (l : List Mem) (by' : Str) (rs : List Int) : Bool := decide (3 ≤ maxP rs) && decide (ofP l by' < 4)
def ltO : Option Str → Str → Bool
  | none, _ => true
  | some q, n => Op.bytesLess q n
def okFrom : Option Str → List Mem → Bool
  | _, [] => true
  | p, m :: l => nameOk m.name && isRole m.role && ltO p m.name && okFrom (some m.name) l
def ownersP (l : List Mem) : Nat := (withP l 4).length
def rightP (l : List Mem) : Bool := okFrom none l && decide (l.length ≤ 8) && decide (0 < ownersP l)
def cmpS (a b : Str) : Int := if Op.bytesLess a b = true then -1 else if a = b then 0 else 1
def differP (was now : List Mem) : List Str := ((was.filter fun m => decide (ofP now m.name ≠ m.role)).map (·.name)) ++ ((now.filter fun m => decide (ofP was m.name = 0)).map (·.name))

@[ext] structure Mani where
  folder : Str
  seq : Int
  prev : List UInt8
  parent : Str
  members : List Mem
  cut : Int
  gone : Bool
  by' : Str
abbrev maniL (m : Mani) : List AV := [.str m.folder, .int .i64 m.seq, enc m.prev, .str m.parent, enc m.members, .int .i64 m.cut, .bool m.gone, .str m.by']
def e_name : Str → List AV := fun s => [.str s]
def k_name : Str → Prop := fun s => s.length ≤ 9223372036854775807
def r_name : Str → AV := fun s => .bool (nameOk s)
noncomputable def p_name : List AV → Store → Option (AV × Store) := primS e_name (gd k_name r_name)
theorem i_name : Inj e_name := by
  intro s1 s2 h
  simpa only [e_name, enc_inj, rec_inj, AV.str.injEq, AV.int.injEq, AV.bool.injEq, AV.agg.injEq, AV.ptr.injEq, AV.fn.injEq, List.cons.injEq, and_true, true_and, Prod.mk.injEq] using h
theorem c_name {E : Env} (h : E.prim 68 = some fun _ => p_name) (s : Str) (hk : s.length ≤ 9223372036854775807) {S : Store} {K : AV → Store → Prop} {d : Dm K} : SpD E 68 [.str s] S K d = K (.bool (nameOk s)) S :=
  callS h i_name (a := s) (by simp only [e_name, rdSL_cons, rdSL_nil, rdS_int, rdS_bool, rdS_str, enc_rdS, rdS_fn0, rdS_csl0, rdS_rec, rdSL_rec, rdS_agg, rdS_tup, Option.bind_some, Option.map_some]) hk
theorem c_name' {E : Env} (h : E.prim 68 = some fun _ => p_name) {S : Store} {x0 : AV} {s : Str} (h0 : rdS S x0 = some (.str s)) (hk : s.length ≤ 9223372036854775807) {K : AV → Store → Prop} {d : Dm K} : SpD E 68 [x0] S K d = K (.bool (nameOk s)) S :=
  callS h i_name (a := s) (by simp only [e_name, rdSL, h0, Option.bind_some, Option.map_some]) hk
def e_nameR : Str → List AV := fun s => [.str s]
def k_nameR : Str → Prop := fun s => s.length ≤ 9223372036854775807
def r_nameR : Str → AV := fun s => .bool (nameOk s)
noncomputable def p_nameR : List AV → Store → Option (AV × Store) := primS e_nameR (gd k_nameR r_nameR)
theorem i_nameR : Inj e_nameR := by
  intro s1 s2 h
  simpa only [e_nameR, enc_inj, rec_inj, AV.str.injEq, AV.int.injEq, AV.bool.injEq, AV.agg.injEq, AV.ptr.injEq, AV.fn.injEq, List.cons.injEq, and_true, true_and, Prod.mk.injEq] using h
theorem c_nameR {E : Env} (h : E.prim 52 = some fun _ => p_nameR) (s : Str) (hk : s.length ≤ 9223372036854775807) {S : Store} {K : AV → Store → Prop} {d : Dm K} : SpD E 52 [.str s] S K d = K (.bool (nameOk s)) S :=
  callS h i_nameR (a := s) (by simp only [e_nameR, rdSL_cons, rdSL_nil, rdS_int, rdS_bool, rdS_str, enc_rdS, rdS_fn0, rdS_csl0, rdS_rec, rdSL_rec, rdS_agg, rdS_tup, Option.bind_some, Option.map_some]) hk
theorem c_nameR' {E : Env} (h : E.prim 52 = some fun _ => p_nameR) {S : Store} {x0 : AV} {s : Str} (h0 : rdS S x0 = some (.str s)) (hk : s.length ≤ 9223372036854775807) {K : AV → Store → Prop} {d : Dm K} : SpD E 52 [x0] S K d = K (.bool (nameOk s)) S :=
  callS h i_nameR (a := s) (by simp only [e_nameR, rdSL, h0, Option.bind_some, Option.map_some]) hk
def long1 (l : List Mem) : Prop := l.length ≤ 1000000 ∧ ∀ m, m ∈ l → m.name.length ≤ 9223372036854775807
end Go.Proofs.YtaajlbbooneiiaaDoor.Avm
