/- The store and the world: what is read, written, made. Operations that make no memory: the machine gives what the abstract machine gives. More operations that make no memory. Still more operations that make no memory. Structs compared, conversions, cuts, lengths, lookups, greatest and least, structs built. -/
import Derived.Test.YtaajlbbooneiiaaDoorZ2
import Derived.Laws.AppendOwn
import Derived.Laws.IdiomCopy
import Derived.Laws.Cells
import Derived.Laws.Rows
import Derived.Lib.ConvBytes
import Derived.Laws.BytesArg
import Derived.WalkLawsBesides
import Derived.Laws.StructEq
set_option linter.unusedVariables false
set_option linter.unusedSimpArgs false
namespace Go.Proofs.YtaajlbbooneiiaaDoor.Avm
open Go.RowKit

section
variable {w0 w w' : World} {φ φ' : Pc} {S : Store} {p : Pl} {id : Nat}

theorem objRel.mono (hx : Ext φ φ') {x : AObj} (h : objRel w0 φ w p x) : objRel w0 φ' w p x := by
  cases x with
  | cells cs =>
    obtain ⟨h1, h2, ccs, e, fr, h3, h4, h5, h6, h7⟩ := h
    exact ⟨h1, h2, ccs, e, fr, h3, h4, h5, h6, fun j v hv => let ⟨cv, a, b, c⟩ := h7 j v hv; ⟨cv, a, b.mono hx, c⟩⟩
  | map es =>
    obtain ⟨h2, ces, clk, h3, h4, h5⟩ := h
    exact ⟨h2, ces, clk, h3, h4, fun j k v e a b => ⟨(h5 j k v e a b).1.mono hx, (h5 j k v e a b).2.mono hx⟩⟩
  | chan cap buf =>
    obtain ⟨h2, cb, s, r, h3, h4⟩ := h
    exact ⟨h2, cb, s, r, h3, h4.mono hx⟩
  | dead => trivial

theorem objRel.heap {x : AObj} (hh : w'.heap[p.b]? = w.heap[p.b]?) (h : objRel w0 φ w p x) : objRel w0 φ w' p x := by
  cases x with
  | cells cs =>
    obtain ⟨h1, h2, ccs, e, fr, h3, h4, h5, h6, h7⟩ := h
    exact ⟨h1, h2, ccs, e, fr, by rw [hh]; exact h3, h4, h5, h6, h7⟩
  | map es =>
    obtain ⟨h2, ces, clk, h3, h4, h5⟩ := h
    exact ⟨h2, ces, clk, by rw [hh]; exact h3, h4, h5⟩
  | chan cap buf =>
    obtain ⟨h2, cb, s, r, h3, h4⟩ := h
    exact ⟨h2, cb, s, r, by rw [hh]; exact h3, h4⟩
  | dead => trivial

theorem objRel.lt {x : AObj} (hl : live x) (h : objRel w0 φ w p x) : w0.heap.size ≤ p.b ∧ p.b < w.heap.size := by
  have key : ∀ o, w.heap[p.b]? = some o → p.b < w.heap.size := fun o ho => (Array.getElem?_eq_some_iff.1 ho).1
  cases x with
  | cells cs => obtain ⟨h1, h2, ccs, e, fr, h3, _⟩ := h; exact ⟨h2, key _ h3⟩
  | map es => obtain ⟨h2, ces, clk, h3, _⟩ := h; exact ⟨h2, key _ h3⟩
  | chan cap buf => obtain ⟨h2, cb, s, r, h3, _⟩ := h; exact ⟨h2, key _ h3⟩
  | dead => exact hl.elim

theorem Rel.place (h : Rel w0 φ S w) {x : AObj} (hx : S[id]? = some x) : ∃ p, φ.pl[id]? = some p := by
  have : id < φ.pl.length := by rw [h.len]; exact (List.getElem?_eq_some_iff.1 hx).1
  exact ⟨φ.pl[id], List.getElem?_eq_getElem this⟩

theorem Rel.grown (h : Rel w0 φ S w) (hg : w.grownBy w' none) : Rel w0 φ S w' where
  below := h.below.grown hg h.below.size (fun _ hk => by cases hk)
  len := h.len
  fz := fun a cv ha => by
    have hc := h.fz a cv ha
    have := World.block_lt_of_cell? w a hc
    simp only [World.cell?] at hc ⊢; rw [hg.block _ this (by simp)]; exact hc
  fzb := h.fzb
  inj := h.inj
  obj := fun i q x hq hx => by
    by_cases hl : live x
    · exact (h.obj i q x hq hx).heap (hg.block _ ((h.obj i q x hq hx).lt hl).2 (by simp))
    · cases x <;> first | trivial | exact absurd trivial hl

theorem Rel.set (h : Rel w0 φ S w) (hp : φ.pl[id]? = some p) {x x' : AObj} (hx : S[id]? = some x) (hl : live x) (hg : w.grownBy w' (some p.b)) (ho : objRel w0 φ w' p x') :
    Rel w0 φ (S.set id x') w' where
  below := h.below.grown hg h.below.size (fun k hk => by cases hk; exact ((h.obj _ _ _ hp hx).lt hl).1)
  len := by simp [h.len]
  fz := fun a cv ha => by
    have hc := h.fz a cv ha
    have h1 := World.block_lt_of_cell? w a hc
    have h2 := h.fzb a cv id p x ha hp hx hl
    simp only [World.cell?] at hc ⊢; rw [hg.block _ h1 (by simp; exact fun e => h2 e.symm)]; exact hc
  fzb := fun a cv i q y ha hq hy ly => by
    by_cases e : id = i
    · subst e
      rw [hp] at hq; cases hq
      exact h.fzb a cv id p x ha hp hx hl
    · rw [List.getElem?_set_ne e] at hy; exact h.fzb a cv i q y ha hq hy ly
  inj := fun i j a b y z ha hb hy hz ly lz hab => by
    have live' : ∀ i y, (S.set id x')[i]? = some y → live y → ∃ y', S[i]? = some y' ∧ live y' := fun i y hy ly => by
      by_cases e : id = i
      · subst e; exact ⟨x, hx, hl⟩
      · rw [List.getElem?_set_ne e] at hy; exact ⟨y, hy, ly⟩
    obtain ⟨y', hy', ly'⟩ := live' i y hy ly
    obtain ⟨z', hz', lz'⟩ := live' j z hz lz
    exact h.inj i j a b y' z' ha hb hy' hz' ly' lz' hab
  obj := fun i q y hq hy => by
    by_cases e : id = i
    · subst e
      rw [hp] at hq; cases hq
      rw [List.getElem?_set_self (List.getElem?_eq_some_iff.1 hx).1] at hy
      cases hy; exact ho
    · rw [List.getElem?_set_ne e] at hy
      by_cases ly : live y
      · have := h.obj i q y hq hy
        refine this.heap (hg.block _ (this.lt ly).2 fun hb => e ?_)
        exact (h.inj i id q p y x hq hp hy hx ly hl (by simpa using hb)).symm
      · cases y <;> first | trivial | exact absurd trivial ly

theorem Rel.kill (h : Rel w0 φ S w) (id : Nat) : Rel w0 φ (S.set id .dead) w where
  below := h.below
  len := by simp [h.len]
  fz := h.fz
  fzb := fun a cv i q y ha hq hy ly => by
    by_cases e : id = i
    · subst e
      rw [List.getElem?_set] at hy; simp at hy; obtain ⟨_, rfl⟩ := hy; exact ly.elim
    · rw [List.getElem?_set_ne e] at hy; exact h.fzb a cv i q y ha hq hy ly
  inj := fun i j a b y z ha hb hy hz ly lz hab => by
    have live' : ∀ i y, (S.set id .dead)[i]? = some y → live y → S[i]? = some y := fun i y hy ly => by
      by_cases e : id = i
      · subst e
        rw [List.getElem?_set] at hy; simp at hy; obtain ⟨_, rfl⟩ := hy; exact ly.elim
      · rwa [List.getElem?_set_ne e] at hy
    exact h.inj i j a b y z ha hb (live' i y hy ly) (live' j z hz lz) ly lz hab
  obj := fun i q y hq hy => by
    by_cases e : id = i
    · subst e
      rw [List.getElem?_set] at hy; simp at hy; obtain ⟨_, rfl⟩ := hy; trivial
    · rw [List.getElem?_set_ne e] at hy; exact h.obj i q y hq hy

theorem Rel.push (h : Rel w0 φ S w) {x : AObj} (hf : ∀ (i : Nat) (q : Pl) (y : AObj), φ.pl[i]? = some q → S[i]? = some y → live y → q.b ≠ p.b) (hz : ∀ (a : Addr) (cv : Value), φ.fz a = some cv → p.b ≠ a.block) (ho : objRel w0 φ w p x) :
    Rel w0 (φ.snoc p) (S ++ [x]) w where
  below := h.below
  len := by simp [h.len, Pc.snoc]
  fz := h.fz
  fzb := fun a cv i q y ha hq hy ly => by
    have hlen := h.len
    simp only [Pc.snoc] at hq ha
    rw [List.getElem?_append] at hq hy
    by_cases hi : i < S.length
    · rw [if_pos (by omega)] at hq; rw [if_pos hi] at hy
      exact h.fzb a cv i q y ha hq hy ly
    · rw [if_neg (by omega)] at hq
      have e : i - φ.pl.length = 0 := by
        have := (List.getElem?_eq_some_iff.1 hq).1; simp at this; omega
      rw [e] at hq; simp at hq; subst hq; exact hz a cv ha
  inj := fun i j a b y z ha hb hy hz ly lz hab => by
    have hlen := h.len
    simp only [Pc.snoc] at ha hb
    rw [List.getElem?_append] at ha hb hy hz
    by_cases hi : i < S.length <;> by_cases hj : j < S.length
    · rw [if_pos (by omega)] at ha hb
      rw [if_pos hi] at hy
      rw [if_pos hj] at hz
      exact h.inj i j a b y z ha hb hy hz ly lz hab
    · rw [if_pos (by omega)] at ha; rw [if_neg (by omega)] at hb
      rw [if_pos hi] at hy
      have e : j - φ.pl.length = 0 := by
        have := (List.getElem?_eq_some_iff.1 hb).1; simp at this; omega
      rw [e] at hb; simp at hb; subst hb
      exact absurd hab (hf i a y ha hy ly)
    · rw [if_neg (by omega)] at ha; rw [if_pos (by omega)] at hb
      rw [if_pos hj] at hz
      have e : i - φ.pl.length = 0 := by
        have := (List.getElem?_eq_some_iff.1 ha).1; simp at this; omega
      rw [e] at ha; simp at ha; subst ha
      exact absurd hab.symm (hf j b z hb hz lz)
    · have e1 : i - S.length = 0 := by
        rw [if_neg hi] at hy; have := (List.getElem?_eq_some_iff.1 hy).1; simp at this; omega
      have e2 : j - S.length = 0 := by
        rw [if_neg hj] at hz; have := (List.getElem?_eq_some_iff.1 hz).1; simp at this; omega
      omega
  obj := fun i q y hq hy => by
    have hlen := h.len
    simp only [Pc.snoc] at hq
    rw [List.getElem?_append] at hq hy
    by_cases hi : i < S.length
    · rw [if_pos (by omega)] at hq; rw [if_pos hi] at hy
      exact (h.obj i q y hq hy).mono (Ext.snoc _ _)
    · rw [if_neg (by omega)] at hq; rw [if_neg hi] at hy
      have e1 : i - S.length = 0 := by
        have := (List.getElem?_eq_some_iff.1 hy).1; simp at this; omega
      have e2 : i - φ.pl.length = 0 := by omega
      rw [e1] at hy; rw [e2] at hq; simp at hq hy; subst hq; subst hy
      exact ho.mono (Ext.snoc _ _)

/-- a block that is new -/
theorem Rel.fresh (h : Rel w0 φ S w) (hb : w.heap.size ≤ p.b) : ∀ (i : Nat) (q : Pl) (y : AObj), φ.pl[i]? = some q → S[i]? = some y → live y → q.b ≠ p.b := fun i q y hq hy ly => by
  have := ((h.obj i q y hq hy).lt ly).2; omega

theorem Rel.freshZ (h : Rel w0 φ S w) (hb : w.heap.size ≤ p.b) : ∀ (a : Addr) (cv : Value), φ.fz a = some cv → p.b ≠ a.block := fun a cv ha => by
  have := World.block_lt_of_cell? w a (h.fz a cv ha); omega

/-- cells read -/
theorem Rel.cells (h : Rel w0 φ S w) (hp : φ.pl[id]? = some p) {cs : List AV} (hx : S[id]? = some (.cells cs)) (off n : Nat) (hn : off + n ≤ cs.length) :
    ∃ cvs, Vc w0 φ ((cs.drop off).take n) cvs ∧ cvs.length = n ∧ ∀ j cv, cvs[j]? = some cv → w.cell? ⟨p.b, p.o + off + j, none⟩ = some cv := by
  obtain ⟨_, _, ccs, e, fr, h3, _, _, h6, h7⟩ := h.obj _ _ _ hp hx
  have hl : ∀ j, j < n → ∃ v, ((cs.drop off).take n)[j]? = some v := fun j hj => ⟨_, List.getElem?_eq_getElem (by simp; omega)⟩
  refine ⟨(List.range n).map fun j => ccs.getD (p.o + off + j) undef, ⟨⟨by simp; omega, fun j v cv hv hcv => ?_⟩, fun cv hcv => ?_⟩, by simp, fun j cv hcv => ?_⟩
  · have hj : j < n := by have := (List.getElem?_eq_some_iff.1 hcv).1; simpa using this
    rw [List.getElem?_take, if_pos hj, List.getElem?_drop] at hv
    obtain ⟨u, hu, hV, _⟩ := h7 _ v hv
    rw [List.getElem?_map, List.getElem?_range hj] at hcv
    simp at hcv
    have : ccs.getD (p.o + off + j) undef = u := by
      rw [Nat.add_assoc, Array.getD_eq_getD_getElem?, hu]; rfl
    rw [← hcv]; simp only [Array.getD_eq_getD_getElem?] at this ⊢; rw [this]; exact hV
  · obtain ⟨j, hj, rfl⟩ := List.mem_map.1 hcv
    have hj' : j < n := by simpa using hj
    obtain ⟨v, hv⟩ := hl j hj'
    rw [List.getElem?_take, if_pos hj', List.getElem?_drop] at hv
    obtain ⟨u, hu, _, ho⟩ := h7 _ v hv
    rw [Nat.add_assoc, Array.getD_eq_getD_getElem?, hu]; exact ho
  · have hj : j < n := by have := (List.getElem?_eq_some_iff.1 hcv).1; simpa using this
    rw [List.getElem?_map, List.getElem?_range hj] at hcv
    simp only [Option.map_some, Option.some.injEq] at hcv
    obtain ⟨v, hv⟩ := hl j hj
    rw [List.getElem?_take, if_pos hj, List.getElem?_drop] at hv
    obtain ⟨u, hu, _, _⟩ := h7 _ v hv
    rw [← Nat.add_assoc] at hu
    simp only [World.cell?, h3]
    rw [← hcv, Array.getD_eq_getD_getElem?, hu]; simp

theorem add_none (b o j : Nat) : (⟨b, o, none⟩ : Addr).add j = ⟨b, o + j, none⟩ := by unfold Addr.add; split <;> simp_all

/-- what setCells leaves -/
theorem setCells_heap (b : Nat) : ∀ (vs : List Value) (o : Nat) (w : World) (ccs : Array Value) (e : TypeId) (fr : Nat × Nat), w.heap[b]? = some (.cells ccs e fr) → o + vs.length ≤ ccs.size →
    (w.setCells b o vs).heap[b]? = some (.cells (ccs.toList.take o ++ vs ++ ccs.toList.drop (o + vs.length)).toArray e fr)
  | [], o, w, ccs, e, fr, h, hb => by
    simp only [World.setCells, List.append_nil, List.length_nil, Nat.add_zero, List.take_append_drop]
    rw [h]
  | v :: vs, o, w, ccs, e, fr, h, hb => by
    simp only [List.length_cons] at hb
    have h1 : (w.setCell ⟨b, o, none⟩ v).heap[b]? = some (.cells (ccs.setIfInBounds o v) e fr) := by
      simp [World.setCell, Array.getElem?_modify, h]
    rw [World.setCells, setCells_heap b vs (o + 1) _ _ e fr h1 (by simp; omega)]
    congr 3
    simp only [Array.toList_setIfInBounds, List.length_cons]
    have hlo : o < ccs.toList.length := by simp; omega
    rw [List.take_succ_eq_append_getElem (by simpa using hlo), List.take_set_of_le (Nat.le_refl _), List.getElem_set_self, List.drop_set_of_lt (by omega)]
    simp [List.append_assoc, Nat.add_assoc, Nat.add_comm 1]
theorem setCells_grown (b : Nat) : ∀ (vs : List Value) (o : Nat) (w : World), w.grownBy (w.setCells b o vs) (some b)
  | [], _, w => ⟨rfl, rfl, rfl, Nat.le_refl _, fun _ _ _ => rfl⟩
  | v :: vs, o, w => by
    have h1 : w.grownBy (w.setCell ⟨b, o, none⟩ v) (some b) := ⟨rfl, rfl, rfl, by simp [World.setCell], fun i hi hne => Below.heap_setCell w _ _ i (fun e => hne (by rw [e]))⟩
    have h2 := setCells_grown b vs (o + 1) (w.setCell ⟨b, o, none⟩ v)
    exact ⟨h2.os.trans h1.os, h2.tape.trans h1.tape, h2.output.trans h1.output, Nat.le_trans h1.size h2.size, fun i hi hne => (h2.block i (Nat.lt_of_lt_of_le hi h1.size) hne).trans (h1.block i hi hne)⟩

/-- cells written -/
theorem Rel.write (h : Rel w0 φ S w) (hp : φ.pl[id]? = some p) {cs : List AV} (hx : S[id]? = some (.cells cs)) (off : Nat) {vs : List AV} {cvs : List Value} (hv : Vc w0 φ vs cvs) (hn : off + vs.length ≤ cs.length) :
    Rel w0 φ (S.set id (.cells (cs.take off ++ vs ++ cs.drop (off + vs.length)))) (w.setCells p.b (p.o + off) cvs) ∧
    (∀ j, j < cvs.length → (w.cell? ⟨p.b, p.o + off + j, none⟩).isSome = true) ∧ (∀ j, j < cvs.length → w.frozen? ⟨p.b, p.o + off + j, none⟩ = false) := by
  obtain ⟨h1, h2, ccs, e, fr, h3, h4, h5, h6, h7⟩ := h.obj _ _ _ hp hx
  have hl := hv.1.1
  refine ⟨h.set hp hx trivial (setCells_grown _ _ _ _) ?_, fun j hj => ?_, fun j hj => ?_⟩
  · refine ⟨by simp only [List.length_append, List.length_take, List.length_drop]; omega, h2, _, e, fr, setCells_heap p.b cvs (p.o + off) w ccs e fr h3 (by omega), ?_, ?_, ?_, fun j v hj => ?_⟩
    · simp only [List.size_toArray, List.length_append, List.length_take, List.length_drop, Array.length_toList]; omega
    · refine h5.imp (fun x => x) fun h5 => ?_
      simp only [List.size_toArray, List.length_append, List.length_take, List.length_drop, Array.length_toList]; omega
    · simp only [List.size_toArray, List.length_append, List.length_take, List.length_drop, Array.length_toList]; omega
    · simp only [List.getElem?_toArray, List.append_assoc]
      by_cases a : j < off
      · rw [List.append_assoc, List.getElem?_append_left (by simp; omega), List.getElem?_take, if_pos a] at hj
        obtain ⟨cv, c1, c2, c3⟩ := h7 j v hj
        refine ⟨cv, ?_, c2, c3⟩
        rw [List.getElem?_append_left (by simp; omega), List.getElem?_take, if_pos (by omega)]
        simpa using c1
      · by_cases b : j < off + vs.length
        · rw [List.append_assoc, List.getElem?_append_right (by simp; omega), List.getElem?_append_left (by simp; omega)] at hj
          obtain ⟨cv, c1, c2⟩ := hv.1.get hj
          refine ⟨cv, ?_, c2, hv.2 cv (List.mem_of_getElem? c1)⟩
          rw [List.getElem?_append_right (by simp; omega), List.getElem?_append_left (by simp; omega)]
          rw [← c1]; congr 1; simp; omega
        · rw [List.append_assoc, List.getElem?_append_right (by simp; omega), List.getElem?_append_right (by simp; omega), List.getElem?_drop] at hj
          obtain ⟨cv, c1, c2, c3⟩ := h7 _ v hj
          refine ⟨cv, ?_, c2, c3⟩
          rw [List.getElem?_append_right (by simp; omega), List.getElem?_append_right (by simp; omega), List.getElem?_drop]
          rw [Array.getElem?_toList]
          rw [← c1]; congr 1
          simp only [List.length_take, Array.length_toList]; omega
  · simp only [World.cell?, h3]; simp; omega
  · simp only [World.frozen?, h3]
    rcases h5 with h5 | h5
    · subst h5; simp
    · simp; omega

/-- a row made -/
theorem Rel.alloc (h : Rel w0 φ S w) {cs : List AV} {cvs : List Value} (hv : Vc w0 φ cs cvs) (e : TypeId) (cap : Nat) (spare : List Value) :
    Rel w0 (φ.snoc ⟨w.heap.size, 0, cvs.length + spare.length, cs.length⟩) (S ++ [.cells cs]) (w.alloc (.cells (cvs ++ spare).toArray e)) := by
  have hg : w.grownBy (w.alloc (.cells (cvs ++ spare).toArray e)) none := World.grownBy_alloc w _ _
  refine (h.grown hg).push (fun i q y hq hy ly => ?_) (h.freshZ (Nat.le_refl _)) ?_
  · have := ((h.obj i q y hq hy).lt ly).2; simp; omega
  · refine ⟨rfl, h.below.size, (cvs ++ spare).toArray, e, (0, 0), heap_alloc_new w _, by simp, .inl rfl, by simp; have := hv.1.1; omega, fun j v hj => ?_⟩
    obtain ⟨cv, c1, c2⟩ := hv.1.get hj
    refine ⟨cv, ?_, c2, hv.2 cv (List.mem_of_getElem? c1)⟩
    simp only [Nat.zero_add, List.getElem?_toArray]
    rw [List.getElem?_append_left (List.getElem?_eq_some_iff.1 c1).1]; exact c1

/-- a row made for good -/
theorem Rel.newF (h : Rel w0 φ S w) (hg : w.grownBy w' none) {cs : List AV} {cvs : List Value} (hv : Vc w0 φ cs cvs) (hc : ∀ (j : Nat) (cv : Value), cvs[j]? = some cv → w'.cell? ⟨w.heap.size, j, none⟩ = some cv) :
    ∃ φ', Ext φ φ' ∧ Rel w0 φ' S w' ∧ ∀ n c, n ≤ c → V w0 φ' (.csl cs n) (.slice (some ⟨w.heap.size, 0, none⟩) n c) ∧ V w0 φ' (.csln cs n) (.slice (some ⟨w.heap.size, 0, none⟩) n c) := by
  have h' := h.grown hg
  let φ' : Pc := ⟨φ.pl, fun a => if a.block = w.heap.size then w'.cell? a else φ.fz a⟩
  have hx : Ext φ φ' := ⟨fun _ _ hp => hp, fun a cv ha => by
    have := World.block_lt_of_cell? w a (h.fz a cv ha)
    simp only [φ']; rw [if_neg (by omega)]; exact ha⟩
  refine ⟨φ', hx, ⟨h'.below, h'.len, fun a cv ha => ?_, fun a cv i p x ha hp hx' hl => ?_, h'.inj, fun i p x hp hx' => (h'.obj i p x hp hx').mono hx⟩, fun n c hn => ?_⟩
  · simp only [φ'] at ha
    split at ha
    · exact ha
    · exact h'.fz a cv ha
  · simp only [φ'] at ha
    split at ha
    · have := ((h.obj i p x hp hx').lt hl).2; omega
    · exact h.fzb a cv i p x ha hp hx' hl
  · have hv' := hv.mono hx
    have key : ∀ (j : Nat) (cv : Value), cvs[j]? = some cv → φ'.fz ((⟨w.heap.size, 0, none⟩ : Addr).add j) = some cv := fun j cv hj => by
      have := hc j cv hj
      have e : (⟨w.heap.size, 0, none⟩ : Addr).add j = ⟨w.heap.size, j, none⟩ := by rw [add_none]; simp
      rw [e]; simp only [φ', if_true]; exact this
    exact ⟨.csl hv'.1.1 key hv'.1.2 hv'.2 hn, .csln hv'.1.1 key hv'.1.2 hv'.2 hn h.below.size rfl⟩

/-- a row's mark turns nothing that is told -/
theorem Rel.mark (h : Rel w0 φ S w) {a : Addr} {u : Value} (hz : φ.fz a = some u) (hb : w0.heap.size ≤ a.block) (q : Addr) (hq : q.block = a.block) (n : Nat) : Rel w0 φ S (w.freeze q n) := by
  by_cases hn : n = 0
  · subst hn; exact h
  have hsame : ∀ k, k ≠ a.block → (w.freeze q n).heap[k]? = w.heap[k]? := fun k hk => by
    simp only [World.freeze, if_neg hn, Array.getElem?_modify]
    rw [if_neg (by rw [hq]; exact fun e => hk e.symm)]
  have hcell : ∀ b, (w.freeze q n).cell? b = w.cell? b := fun b => by
    by_cases e : b.block = a.block
    · simp only [World.cell?, World.freeze, if_neg hn, Array.getElem?_modify]
      rw [if_pos (by rw [hq, e])]
      cases w.heap[b.block]? with
      | none => rfl
      | some o => cases o <;> rfl
    · simp only [World.cell?]; rw [hsame _ e]
  refine ⟨⟨?_, ?_, ?_, ?_, fun k hk => ?_⟩, h.len, fun b cv hb' => by rw [hcell]; exact h.fz b cv hb', h.fzb, h.inj, fun i p x hp hx => ?_⟩
  · simp only [World.freeze, if_neg hn]; exact h.below.os
  · simp only [World.freeze, if_neg hn]; exact h.below.tape
  · simp only [World.freeze, if_neg hn]; exact h.below.output
  · simp only [World.freeze, if_neg hn, Array.size_modify]; exact h.below.size
  · rw [hsame k (by omega)]; exact h.below.block k hk
  · by_cases hl : live x
    · exact (h.obj i p x hp hx).heap (hsame _ (h.fzb a u i p x hz hp hx hl))
    · cases x <;> first | trivial | exact absurd trivial hl

end
end Go.Proofs.YtaajlbbooneiiaaDoor.Avm
set_option linter.unusedVariables false
set_option linter.unusedSimpArgs false
set_option linter.unusedSectionVars false
namespace Go.Proofs.YtaajlbbooneiiaaDoor.Avm
open Go.RowKit

theorem guard_ok {P : Program} {w : World} (op : BinOp) (t : TypeId) (x y : Operand) (a b : Value) (h1 : ∀ cs, a ≠ .agg cs) (h2 : a ≠ .nilIface) : (eqGuard op t x y a b).run P w = .ok () w := by
  unfold eqGuard
  cases a <;> first | exact absurd rfl (h1 _) | exact absurd rfl h2 | (cases op <;> rfl)

/-- what an operation leaves -/
def Gives (w0 : World) (φ : Pc) (S' : Store) (v : AV) (r : Result Next) : Prop :=
  ∃ φ' cv w', (r = .ok (.value cv) w' ∨ (r = .ok .skip w' ∧ cv = undef)) ∧ Ext φ φ' ∧ Rel w0 φ' S' w' ∧ V w0 φ' v cv

theorem beqd (a b : List UInt8) : (a == b) = decide (a = b) := by rw [Bool.eq_iff_iff]; simp

/-- a scalar's value -/
def sv : AV → Value
  | .int k n => .int k n
  | .bool b => .bool b
  | .str s => .string ⟨s.toArray⟩
  | _ => undef

section inv
variable {w0 : World} {φ : Pc} {cv : Value}
theorem V.int_inv {k : IntKind} {n : Int} (h : V w0 φ (.int k n) cv) : cv = .int k n := by cases h; rfl
theorem V.bool_inv {b : Bool} (h : V w0 φ (.bool b) cv) : cv = .bool b := by cases h; rfl
theorem V.str_inv {s : List UInt8} (h : V w0 φ (.str s) cv) : cv = .string ⟨s.toArray⟩ := by cases h; rfl
theorem V.str' (s : List UInt8) : V w0 φ (.str s) (.string ⟨s.toArray⟩) := V.str (⟨s.toArray⟩ : ByteArray)
theorem V.undef : V w0 φ AV.undef undef := .tup (cvs := []) rfl (fun j v cv h => by simp at h)
theorem V.tup_inv {vs : List AV} (h : V w0 φ (.tup vs) cv) : ∃ cvs, cv = .tuple cvs.toArray ∧ Vs w0 φ vs cvs := by cases h with | tup hl h => exact ⟨_, rfl, hl, h⟩
theorem V.agg_inv {cs : List AV} (h : V w0 φ (.agg cs) cv) : ∃ cvs, cv = .agg cvs.toArray ∧ Vc w0 φ cs cvs := by cases h with | agg hl h ho => exact ⟨_, rfl, ⟨hl, h⟩, ho⟩
theorem V.mkAgg {cs : List AV} {cvs : List Value} (h : Vc w0 φ cs cvs) : V w0 φ (.agg cs) (.agg cvs.toArray) := .agg h.1.1 h.1.2 h.2
theorem V.fn_inv {f : Nat} {cap : List AV} (h : V w0 φ (.fn f cap) cv) : ∃ cvs, cv = .func (.func f) #[] cvs.toArray ∧ Vs w0 φ cap cvs := by cases h with | fn hl h => exact ⟨_, rfl, hl, h⟩
theorem V.ptr_inv {id off : Nat} (h : V w0 φ (.ptr id off) cv) : ∃ p, φ.pl[id]? = some p ∧ cv = .pointer (some ⟨p.b, p.o + off, none⟩) := by cases h with | ptr hp => exact ⟨_, hp, rfl⟩
theorem V.cptr_inv {cs : List AV} (h : V w0 φ (.cptr cs) cv) : ∃ a cvs, cv = .pointer (some a) ∧ Vc w0 φ cs cvs ∧ ∀ (j : Nat) (u : Value), cvs[j]? = some u → φ.fz (a.add j) = some u := by
  cases h with | cptr hl hc h ho => exact ⟨_, _, rfl, ⟨⟨hl, h⟩, ho⟩, hc⟩
theorem V.csl_inv {cs : List AV} {n : Nat} (h : V w0 φ (.csl cs n) cv) : (∃ a c cvs, cv = .slice (some a) n c ∧ Vc w0 φ cs cvs ∧ n ≤ c ∧ ∀ (j : Nat) (u : Value), cvs[j]? = some u → φ.fz (a.add j) = some u) ∨ (cs = [] ∧ n = 0 ∧ cv = .slice none 0 0) := by
  cases h with
  | csl hl hc h ho hn => exact .inl ⟨_, _, _, rfl, ⟨⟨hl, h⟩, ho⟩, hn, hc⟩
  | csl0 => exact .inr ⟨rfl, rfl, rfl⟩
theorem V.nsl_inv (h : V w0 φ .nsl cv) : ∃ a c, cv = .slice (some a) 0 c := by cases h; exact ⟨_, _, rfl⟩
theorem V.emp_inv (h : V w0 φ .emp cv) : ∃ b, cv = .slice b 0 0 := by cases h; exact ⟨_, rfl⟩
theorem V.mkCptr {cs : List AV} {cvs : List Value} {a : Addr} (h : Vc w0 φ cs cvs) (hc : ∀ (j : Nat) (u : Value), cvs[j]? = some u → φ.fz (a.add j) = some u) : V w0 φ (.cptr cs) (.pointer (some a)) := .cptr h.1.1 hc h.1.2 h.2
theorem V.mkCsl {cs : List AV} {cvs : List Value} {a : Addr} {n c : Nat} (h : Vc w0 φ cs cvs) (hn : n ≤ c) (hc : ∀ (j : Nat) (u : Value), cvs[j]? = some u → φ.fz (a.add j) = some u) : V w0 φ (.csl cs n) (.slice (some a) n c) := .csl h.1.1 hc h.1.2 h.2 hn
theorem V.sl_inv {id off n sz : Nat} (h : V w0 φ (.sl id off n sz) cv) : ∃ a c p, cv = .slice (some a) n c ∧ φ.pl[id]? = some p ∧ (0 < c → a = ⟨p.b, p.o + off, none⟩) ∧ p.tot ≤ off + c * sz ∧ p.o + off + c * sz ≤ p.cap ∧ n ≤ c ∧ 0 < sz ∧ off + n * sz ≤ p.tot := by
  cases h with | sl hp ha ht hc hn hs hk => exact ⟨_, _, _, rfl, hp, ha, ht, hc, hn, hs, hk⟩
theorem V.slc_inv {id off n c sz : Nat} (h : V w0 φ (.slc id off n c sz) cv) : ∃ a p, cv = .slice (some a) n c ∧ φ.pl[id]? = some p ∧ (0 < c → a = ⟨p.b, p.o + off, none⟩) ∧ off + c * sz ≤ p.tot ∧ n ≤ c ∧ 0 < sz := by
  cases h with | slc hp ha hk hn hs => exact ⟨_, _, rfl, hp, ha, hk, hn, hs⟩
theorem V.nilS_inv (h : V w0 φ .nilS cv) : cv = .slice none 0 0 := by cases h; rfl
end inv

section
variable {P : Program} {w0 w : World} {φ : Pc} {S S' : Store} {ev : AX → AV} {ρ : Operand → Value} {tr : Operand → Option AX} {cf : CallF} {o : Oper} {v : AV}
  (hr : Rel w0 φ S w) (hρ : ∀ x ax, tr x = some ax → V w0 φ (ev ax) (ρ x))
include hr

theorem gives_value {cv : Value} {r : Result Next} (h : r = .ok (.value cv) w) (hv : V w0 φ v cv) : Gives w0 φ S v r := ⟨φ, cv, w, .inl h, .refl _, hr, hv⟩

include hρ

theorem ok_move {x : Operand} (ho : o.op = .move x ∨ o.op = .assign x) {ao : AOp} (hc : compOp P tr o.op = some ao) (ha : aop cf S ev ao = some (v, S')) : Gives w0 φ S' v ((execOp ρ o).run P w) := by
  have hc : (tr x).map AOp.mv = some ao := by rcases ho with ho | ho <;> (rw [ho] at hc; exact hc)
  obtain ⟨ax, hx, rfl⟩ := Option.map_eq_some_iff.1 hc
  simp only [aop, Option.some.injEq, Prod.mk.injEq] at ha
  obtain ⟨rfl, rfl⟩ := ha
  exact gives_value hr (by rcases ho with ho | ho <;> simp [execOp, ho]) (hρ _ _ hx)

theorem ok_pick {c a b : Operand} (ho : o.op = .pick c a b) {ao : AOp} (hc : compOp P tr o.op = some ao) (ha : aop cf S ev ao = some (v, S')) : Gives w0 φ S' v ((execOp ρ o).run P w) := by
  rw [ho] at hc
  simp only [compOp, Option.bind_eq_some_iff, Option.map_eq_some_iff] at hc
  obtain ⟨ac, h1, aa, h2, ab, h3, rfl⟩ := hc
  have k1 := hρ _ _ h1
  simp only [aop] at ha
  split at ha
  · rename_i t ht
    rw [ht] at k1
    have := k1.bool_inv
    cases ha
    refine gives_value hr (cv := if t then ρ a else ρ b) (by simp [execOp, ho, this, asBool]) ?_
    cases t
    · exact hρ _ _ h3
    · exact hρ _ _ h2
  · cases ha

theorem ok_nilck {x : Operand} (ho : o.op = .nilCheck x) {ao : AOp} (hc : compOp P tr o.op = some ao) (ha : aop cf S ev ao = some (v, S')) : Gives w0 φ S' v ((execOp ρ o).run P w) := by
  rw [ho] at hc
  obtain ⟨ax, hx, rfl⟩ := Option.map_eq_some_iff.1 hc
  have k := hρ _ _ hx
  simp only [aop] at ha
  split at ha
  · rename_i id off he
    rw [he] at k; obtain ⟨p, hp, e⟩ := k.ptr_inv
    cases ha; exact gives_value hr (by simp [execOp, ho, e]) (.ptr hp)
  · rename_i cs he
    rw [he] at k; have k' := k; obtain ⟨a, cvs, e, _⟩ := k.cptr_inv
    cases ha; rw [e] at k'; exact gives_value hr (by simp [execOp, ho, e]) k'
  · rename_i f cap he
    rw [he] at k; have k' := k; obtain ⟨cvs, e, _⟩ := k.fn_inv
    cases ha; rw [e] at k'; exact gives_value hr (by simp [execOp, ho, e]) k'
  · cases ha

theorem bin_int (op : BinOp) (t : TypeId) (k k' : IntKind) (a b : Int) (h : abin op (.int k a) (.int k' b) = some v) : (binOp op t (.int k a) (.int k' b)).run P w = .ok (sv v) w ∧ V w0 φ v (sv v) := by
  cases op <;> simp only [abin] at h
  all_goals first
    | (split at h
       · cases h
       · cases h; rename_i hb; exact ⟨by simp only [binOp, Op.shift]; rw [if_neg hb]; rfl, .int _ _⟩)
    | (split at h
       · rename_i hk; subst hk
         first
           | (cases h; exact ⟨by simp only [binOp]; rw [if_neg (by simp)]; rfl, .int _ _⟩)
           | (cases h; exact ⟨by simp only [binOp]; rw [if_neg (by simp)]; simp only [Op.intCmp, sv, Sem.run_pure] <;> first | rfl | (congr 2; simp), .bool _⟩)
           | (split at h
              · cases h
              · cases h; rename_i hb; exact ⟨by simp only [binOp]; rw [if_neg (by simp)]; simp only [Op.intDiv]; rw [if_neg hb]; rfl, .int _ _⟩)
       · cases h)

theorem bin_str (op : BinOp) (t : TypeId) (a b : List UInt8) (h : abin op (.str a) (.str b) = some v) : (binOp op t (.string ⟨a.toArray⟩) (.string ⟨b.toArray⟩)).run P w = .ok (sv v) w ∧ V w0 φ v (sv v) := by
  cases op <;> simp only [abin] at h
  all_goals first
    | (split at h
       · cases h; rename_i hb
         refine ⟨?_, .str' _⟩
         simp only [binOp, Op.stringOp]
         rw [if_neg (by simp [ByteArray.size, IntKind.max, IntKind.signed, IntKind.bits]; omega)]
         have : (⟨a.toArray⟩ ++ ⟨b.toArray⟩ : ByteArray) = ⟨(a ++ b).toArray⟩ := by
           apply WideShapes.bytes_inj
           simp [ByteArray.toList_data_append]
         rw [this]; rfl
       · cases h)
    | (cases h
       refine ⟨?_, .bool _⟩
       simp only [binOp, Op.stringOp, ByteArray.toList_eq, sv, Sem.run_pure]
       try simp only [beqd, Bool.not_or])
    | cases h

theorem ok_bin {op : BinOp} {t u : TypeId} {x y : Operand} (ho : o.op = .binOp op t x y u) {ao : AOp} (hc : compOp P tr o.op = some ao) {ax ay : AX} (hao : ao = .bin op ax ay) (hx : tr x = some ax) (hy : tr y = some ay)
    (ha : aop cf S ev ao = some (v, S')) : Gives w0 φ S' v ((execOp ρ o).run P w) := by
  subst hao
  simp only [aop, Option.map_eq_some_iff, Prod.mk.injEq] at ha
  obtain ⟨v', h, rfl, rfl⟩ := ha
  have kx := hρ _ _ hx
  have ky := hρ _ _ hy
  have hg := guard_ok (P := P) (w := w) op t x y (ρ x) (ρ y)
  generalize hvx : ev ax = vx at kx h
  generalize hvy : ev ay = vy at ky h
  cases vx <;> cases vy <;> try (simp [abin] at h; done)
  · have e1 := kx.int_inv; have e2 := ky.int_inv
    obtain ⟨hcv, hV⟩ := bin_int (P := P) (w := w) hr hρ op t _ _ _ _ h
    rw [e1, e2] at hg
    have hg := hg (by simp) (by simp)
    exact gives_value hr (by simp [execOp, ho, e1, e2, hg, hcv]) hV
  · have e1 := kx.str_inv; have e2 := ky.str_inv
    obtain ⟨hcv, hV⟩ := bin_str (P := P) (w := w) hr hρ op t _ _ h
    rw [e1, e2] at hg
    have hg := hg (by simp) (by simp)
    exact gives_value hr (by simp [execOp, ho, e1, e2, hg, hcv]) hV

end
end Go.Proofs.YtaajlbbooneiiaaDoor.Avm
set_option linter.unusedVariables false
set_option linter.unusedSimpArgs false
set_option linter.unusedSectionVars false
namespace Go.Proofs.YtaajlbbooneiiaaDoor.Avm
open Go.RowKit

section types
variable {P : Program} {w : World} {t : TypeId}
theorem run_size {n : Nat} (h : szOf P t = some n) : (sizeOf t).run P w = .ok n w ∧ 0 < n := by
  unfold szOf at h
  obtain ⟨i, hi, h⟩ := Option.bind_eq_some_iff.1 h
  split at h
  · cases h; rename_i hp; exact ⟨by simp [sizeOf, typeInfo, hi], hp⟩
  · cases h
theorem run_agg {b : Bool} (h : isAggB P t = some b) : (isAgg t).run P w = .ok b w := by
  unfold isAggB at h
  split at h
  · rename_i fs he; cases h; simp [isAgg, run_underlying he]
  · rename_i l e he; cases h; simp [isAgg, run_underlying he]
  · rename_i d h1 h2 he
    cases h
    simp only [isAgg, Sem.run_bind, run_underlying he, Result.andThen_ok]
    cases d <;> first | rfl | exact absurd he (h1 _) | exact absurd he (h2 _ _)
  · cases h
theorem constS_V {w0 : World} {φ : Pc} {v : Value} {a : AV} (h : constS v = some a) : V w0 φ a v ∧ v.oneCell' = true := by
  unfold constS at h
  split at h <;> cases h
  all_goals first
    | exact ⟨.int _ _, rfl⟩ | exact ⟨.bool _, rfl⟩ | exact ⟨.str _, rfl⟩ | exact ⟨.nilP, rfl⟩ | exact ⟨.nilS, rfl⟩ | exact ⟨.nilM, rfl⟩ | exact ⟨.nilC, rfl⟩ | exact ⟨.nilF, rfl⟩ | exact ⟨.nilI, rfl⟩
theorem constSs_V {w0 : World} {φ : Pc} : ∀ {vs : List Value} {xas : List AV}, constSs vs = some xas → Vc w0 φ xas vs
  | [], xas, h => by cases h; exact .nil
  | v :: vs, xas, h => by
    simp only [constSs, Option.bind_eq_some_iff, Option.map_eq_some_iff] at h
    obtain ⟨a, h1, as', h2, rfl⟩ := h
    exact .cons (constS_V h1).1 (constS_V (w0 := w0) (φ := φ) h1).2 (constSs_V h2)
theorem constAV_V {w0 : World} {φ : Pc} {v : Value} {a : AV} (h : constAV v = some a) : V w0 φ a v := by
  unfold constAV at h
  split at h
  · obtain ⟨xas, h1, rfl⟩ := Option.map_eq_some_iff.1 h
    have := constSs_V (w0 := w0) (φ := φ) h1
    exact V.mkAgg this
  · exact (constS_V h).1
theorem run_zero {cs : List AV} (h : zeroCells P t = some cs) : ∃ z, (zeroValue t).run P w = .ok z w ∧ constSs z.cells.toList = some cs := by
  unfold zeroCells at h
  simp only [Option.bind_eq_some_iff] at h
  obtain ⟨i, hi, z, hz, hc⟩ := h
  exact ⟨z, by simp [zeroValue, typeInfo, hi, hz], hc⟩
theorem run_zeroAV {a : AV} (h : zeroAV P t = some a) : ∃ z, (zeroValue t).run P w = .ok z w ∧ constAV z = some a := by
  unfold zeroAV at h
  simp only [Option.bind_eq_some_iff] at h
  obtain ⟨i, hi, z, hz, hc⟩ := h
  exact ⟨z, by simp [zeroValue, typeInfo, hi, hz], hc⟩
end types

theorem add_add (a : Addr) (m j : Nat) : (a.add m).add j = a.add (m + j) := by
  unfold Addr.add
  by_cases hm : m = 0
  · subst hm; simp
  · by_cases hj : j = 0
    · subst hj; simp
    · simp [hm, hj, Nat.add_assoc]

section
variable {P : Program} {w0 w : World} {φ : Pc} {S S' : Store} {ev : AX → AV} {ρ : Operand → Value} {tr : Operand → Option AX} {cf : CallF} {o : Oper} {v : AV}
  (hr : Rel w0 φ S w) (hρ : ∀ x ax, tr x = some ax → V w0 φ (ev ax) (ρ x))

theorem Rel.cell0 (hr : Rel w0 φ S w) {a : Addr} {u : Value} (h : φ.fz a = some u) : w.cell? a = some u := hr.fz a u h

/-- n cells under an address -/
theorem loadable_agg (hr : Rel w0 φ S w) {n : Nat} {x v : AV} {cx : Value} (hx : V w0 φ x cx) (h : loadA S true n x = some v) :
    ∃ a cvs cs, cx = .pointer (some a) ∧ v = .agg cs ∧ cvs.length = n ∧ Vc w0 φ cs cvs ∧ ∀ (j : Nat) (u : Value), cvs[j]? = some u → w.cell? (a.add j) = some u := by
  unfold loadA at h
  split at h
  · rename_i id off
    obtain ⟨p, hp, rfl⟩ := hx.ptr_inv
    split at h
    · rename_i cs hs
      rw [if_pos rfl] at h
      split at h
      · rename_i hn
        cases h
        obtain ⟨cvs, h1, h2, h3⟩ := hr.cells hp hs off n hn
        exact ⟨_, cvs, _, rfl, rfl, h2, h1, fun j u hu => by rw [add_none]; exact h3 j u hu⟩
      · cases h
    · cases h
  · rename_i cs
    obtain ⟨a, cvs, rfl, h1, h2⟩ := hx.cptr_inv
    rw [if_pos rfl] at h
    split at h
    · rename_i hn
      cases h
      refine ⟨a, cvs.take n, _, rfl, rfl, by have := h1.1.1; simp; omega, h1.take n, fun j u hu => hr.cell0 (h2 j u ?_)⟩
      rw [List.getElem?_take] at hu; split at hu
      · exact hu
      · cases hu
    · cases h
  · cases h

theorem loadable_one (hr : Rel w0 φ S w) {n : Nat} {x v : AV} {cx : Value} (hx : V w0 φ x cx) (h : loadA S false n x = some v) :
    ∃ a cv, cx = .pointer (some a) ∧ V w0 φ v cv ∧ w.cell? a = some cv := by
  unfold loadA at h
  split at h
  · rename_i id off
    obtain ⟨p, hp, rfl⟩ := hx.ptr_inv
    split at h
    · rename_i cs hs
      rw [if_neg (by simp)] at h
      have hlt := (List.getElem?_eq_some_iff.1 h).1
      obtain ⟨cvs, h1, h2, h3⟩ := hr.cells hp hs off 1 (by omega)
      have hv : ((cs.drop off).take 1)[0]? = some v := by rw [List.getElem?_take, if_pos (by omega), List.getElem?_drop]; simpa using h
      obtain ⟨cv, hc, hV⟩ := h1.1.get hv
      exact ⟨_, cv, rfl, hV, by simpa using h3 0 cv hc⟩
    · cases h
  · rename_i cs
    obtain ⟨a, cvs, rfl, h1, h2⟩ := hx.cptr_inv
    rw [if_neg (by simp)] at h
    obtain ⟨cv, hc, hV⟩ := h1.1.get h
    exact ⟨a, cv, rfl, hV, hr.cell0 (by simpa [Addr.add] using h2 0 cv hc)⟩
  · cases h

include hr hρ

theorem ok_load {t : TypeId} {x : Operand} (ho : o.op = .load t x) {ao : AOp} (hc : compOp P tr o.op = some ao) (ha : aop cf S ev ao = some (v, S')) : Gives w0 φ S' v ((execOp ρ o).run P w) := by
  rw [ho] at hc
  simp only [compOp, Option.bind_eq_some_iff, Option.map_eq_some_iff] at hc
  obtain ⟨b, hb, n, hn, ax, hx, rfl⟩ := hc
  simp only [aop, Option.map_eq_some_iff, Prod.mk.injEq] at ha
  obtain ⟨v', hl, rfl, rfl⟩ := ha
  have hs := run_size (w := w) hn
  have hg := run_agg (w := w) hb
  cases b with
  | true =>
    obtain ⟨a, cvs, cs, e, rfl, h1, h2, h3⟩ := loadable_agg hr (hρ _ _ hx) hl
    have := run_loadCells_list (P := P) w a cvs h3
    rw [h1] at this
    exact gives_value hr (by simp [execOp, ho, Instr.loadAt, Instr.sureAddr, e, loadVar, hg, hs.1, this]) (V.mkAgg h2)
  | false =>
    obtain ⟨a, cv, e, h2, h3⟩ := loadable_one hr (hρ _ _ hx) hl
    exact gives_value hr (by simp [execOp, ho, Instr.loadAt, Instr.sureAddr, e, loadVar, hg, h3]) h2

theorem ok_faddr {t : TypeId} {x : Operand} {f : Nat} (ho : o.op = .fieldAddr t x f) {ao : AOp} (hc : compOp P tr o.op = some ao) (ha : aop cf S ev ao = some (v, S')) : Gives w0 φ S' v ((execOp ρ o).run P w) := by
  rw [ho] at hc
  simp only [compOp] at hc
  split at hc
  · rename_i fs hu
    simp only [Option.bind_eq_some_iff, Option.map_eq_some_iff] at hc
    obtain ⟨fd, hf, n, hn, ax, hx, rfl⟩ := hc
    have hs := run_size (w := w) hn
    have k := hρ _ _ hx
    have run : ∀ a, ρ x = .pointer (some a) → (execOp ρ o).run P w = .ok (.value (.pointer (some (a.add fd.offset)))) w := fun a e => by
      have : ¬ n = 0 := by omega
      simp [execOp, ho, Instr.fieldAt, run_underlying hu, hf, Instr.sureAddr, e, fieldPlace, hs.1, this]
    simp only [aop] at ha
    split at ha
    · rename_i id off he
      rw [he] at k; obtain ⟨p, hp, e⟩ := k.ptr_inv
      cases ha
      exact gives_value hr (run _ e) (by rw [add_none, Nat.add_assoc]; exact .ptr hp)
    · rename_i cs he
      rw [he] at k; obtain ⟨a, cvs, e, h1, h2⟩ := k.cptr_inv
      cases ha
      refine gives_value hr (run _ e) (.mkCptr (h1.drop fd.offset) fun j u hu => ?_)
      rw [add_add]; rw [List.getElem?_drop] at hu; exact h2 _ _ hu
    · cases ha
  · cases hc

theorem run_part {t : TypeId} {cs : List AV} {cvs : List Value} {off n : Nat} {b : Bool} (hb : isAggB P t = some b) (hn : szOf P t = some n) (h : Vc w0 φ cs cvs) (hl : off + n ≤ cs.length)
    {v : AV} (hv : (if b then some (AV.agg ((cs.drop off).take n)) else cs[off]?) = some v) : ∃ cv, (part t cvs.toArray off).run P w = .ok cv w ∧ V w0 φ v cv := by
  have hs := run_size (w := w) hn
  have hg := run_agg (w := w) hb
  cases b with
  | true =>
    simp only [if_true, Option.some.injEq] at hv
    subst hv
    refine ⟨.agg ((cvs.drop off).take n).toArray, ?_, .mkAgg ((h.drop off).take n)⟩
    simp only [part, Sem.run_bind, hg, hs.1, Result.andThen_ok, if_true, Sem.run_pure]
    congr 2
    rw [List.take_drop]
    rw [List.extract_toArray, List.extract_eq_drop_take']
  | false =>
    simp only [Bool.false_eq_true, if_false] at hv
    obtain ⟨cv, hc, hV⟩ := h.1.get hv
    exact ⟨cv, by simp [part, hg, hc], hV⟩

theorem ok_field {t : TypeId} {x : Operand} {f : Nat} (ho : o.op = .field t x f) {ao : AOp} (hc : compOp P tr o.op = some ao) (ha : aop cf S ev ao = some (v, S')) : Gives w0 φ S' v ((execOp ρ o).run P w) := by
  rw [ho] at hc
  simp only [compOp] at hc
  split at hc
  · rename_i fs hu
    simp only [Option.bind_eq_some_iff, Option.map_eq_some_iff] at hc
    obtain ⟨fd, hf, b, hb, n, hn, ax, hx, rfl⟩ := hc
    have k := hρ _ _ hx
    simp only [aop] at ha
    split at ha
    · rename_i cs he
      rw [he] at k; obtain ⟨cvs, e, h1⟩ := k.agg_inv
      split at ha
      · rename_i hl
        have : ∃ v', (if b then some (AV.agg ((cs.drop fd.offset).take n)) else cs[fd.offset]?) = some v' ∧ v = v' ∧ S' = S := by
          cases b with
          | true => simp only [if_true] at ha ⊢; cases ha; exact ⟨_, rfl, rfl, rfl⟩
          | false => simp only [Bool.false_eq_true, if_false] at ha ⊢; obtain ⟨v', hv, hh⟩ := Option.map_eq_some_iff.1 ha; cases hh; exact ⟨_, hv, rfl, rfl⟩
        obtain ⟨v', hv, rfl, rfl⟩ := this
        obtain ⟨cv, hp, hV⟩ := run_part (P := P) hr hρ hb hn h1 hl hv
        exact gives_value hr (by simp [execOp, ho, Instr.field, run_underlying hu, hf, e, asAgg, hp]) hV
      · cases ha
    · cases ha
  · cases hc

end
end Go.Proofs.YtaajlbbooneiiaaDoor.Avm
set_option linter.unusedVariables false
set_option linter.unusedSimpArgs false
set_option linter.unusedSectionVars false
namespace Go.Proofs.YtaajlbbooneiiaaDoor.Avm
open Go.RowKit

theorem equal_bool {P : Program} {t : TypeId} {w : World} (hu : P.underlying t = some .bool) (a b : Bool) : (Op.equal t (.bool a) (.bool b)).run P w = .ok (a == b) w := by
  have : ∀ d, (Op.equalIn (d + 1) t (.bool a) (.bool b)).run P w = .ok (a == b) w := fun d => by simp [Op.equalIn, run_underlying hu]
  exact this 9999
theorem bin_eql_bool (t : TypeId) (a b : Bool) : binOp .eql t (.bool a) (.bool b) = (do pure (.bool (← Op.equal t (.bool a) (.bool b)))) := rfl
theorem bin_neq_bool (t : TypeId) (a b : Bool) : binOp .neq t (.bool a) (.bool b) = (do pure (.bool (!(← Op.equal t (.bool a) (.bool b))))) := rfl
theorem isNil_true {cls : Nat} {v : AV} (h : isNil cls v = some true) : (cls = 0 ∧ v = .nilP) ∨ (cls = 1 ∧ v = .nilS) ∨ (cls = 2 ∧ v = .nilM) ∨ (cls = 3 ∧ v = .nilC) ∨ (cls = 4 ∧ v = .nilF) := by
  unfold isNil at h
  split at h <;> simp_all
theorem class_inv {P : Program} {t : TypeId} {cls : Nat} (hu : nilClass P t = some cls) :
    (cls = 0 ∧ ∃ e, P.underlying t = some (.pointer e)) ∨ (cls = 1 ∧ ∃ e, P.underlying t = some (.slice e)) ∨ (cls = 2 ∧ ∃ k e, P.underlying t = some (.map k e)) ∨ (cls = 3 ∧ ∃ d e, P.underlying t = some (.chan d e)) ∨ (cls = 4 ∧ ∃ a b c, P.underlying t = some (.func a b c)) := by
  unfold nilClass at hu
  split at hu <;> simp_all
theorem key_nil {P : Program} {t : TypeId} {cls : Nat} {w0 w : World} {φ : Pc} (hu : nilClass P t = some cls) {vx vy : AV} {rx ry : Value} {a : Bool} (h1 : isNil cls vx = some a) (h2 : isNil cls vy = some true) (kx : V w0 φ vx rx) (ky : V w0 φ vy ry) :
    (∀ d, (Op.equalIn (d + 1) t rx ry).run P w = .ok a w) ∧ (∀ cs, rx ≠ .agg cs) ∧ rx ≠ .nilIface ∧ binOp .eql t rx ry = (do pure (.bool (← Op.equal t rx ry))) ∧ binOp .neq t rx ry = (do pure (.bool (!(← Op.equal t rx ry)))) := by
  rcases isNil_true h2 with ⟨rfl, rfl⟩ | ⟨rfl, rfl⟩ | ⟨rfl, rfl⟩ | ⟨rfl, rfl⟩ | ⟨rfl, rfl⟩ <;> cases ky <;> rcases class_inv hu with ⟨h0, h⟩ | ⟨h0, h⟩ | ⟨h0, h⟩ | ⟨h0, h⟩ | ⟨h0, h⟩ <;> try (exact absurd h0 (by decide))
  · obtain ⟨e, hu⟩ := h
    cases vx <;> simp only [isNil, Option.some.injEq, reduceCtorEq] at h1 <;> first | (subst h1; cases kx; exact ⟨fun d => by simp [Op.equalIn, run_underlying hu], by simp, by simp, rfl, rfl⟩) | (split at h1 <;> first | (cases h1; done) | (rename_i hne; simp only [Option.some.injEq] at h1; subst h1; cases kx <;> first | exact absurd rfl hne | exact ⟨fun d => by simp [Op.equalIn, run_underlying hu], by simp, by simp, rfl, rfl⟩))
  · obtain ⟨e, hu⟩ := h
    cases vx <;> simp only [isNil, Option.some.injEq, reduceCtorEq] at h1 <;> first | (subst h1; cases kx; exact ⟨fun d => by simp [Op.equalIn, run_underlying hu], by simp, by simp, rfl, rfl⟩) | (split at h1 <;> first | (cases h1; done) | (rename_i hne; simp only [Option.some.injEq] at h1; subst h1; cases kx <;> first | exact absurd rfl hne | exact ⟨fun d => by simp [Op.equalIn, run_underlying hu], by simp, by simp, rfl, rfl⟩))
  · obtain ⟨k, e, hu⟩ := h
    cases vx <;> simp only [isNil, Option.some.injEq, reduceCtorEq] at h1 <;> first | (subst h1; cases kx; exact ⟨fun d => by simp [Op.equalIn, run_underlying hu], by simp, by simp, rfl, rfl⟩) | (split at h1 <;> first | (cases h1; done) | (rename_i hne; simp only [Option.some.injEq] at h1; subst h1; cases kx <;> first | exact absurd rfl hne | exact ⟨fun d => by simp [Op.equalIn, run_underlying hu], by simp, by simp, rfl, rfl⟩))
  · obtain ⟨d, e, hu⟩ := h
    cases vx <;> simp only [isNil, Option.some.injEq, reduceCtorEq] at h1 <;> first | (subst h1; cases kx; exact ⟨fun d => by simp [Op.equalIn, run_underlying hu], by simp, by simp, rfl, rfl⟩) | (split at h1 <;> first | (cases h1; done) | (rename_i hne; simp only [Option.some.injEq] at h1; subst h1; cases kx <;> first | exact absurd rfl hne | exact ⟨fun d => by simp [Op.equalIn, run_underlying hu], by simp, by simp, rfl, rfl⟩))
  · obtain ⟨k, e, c, hu⟩ := h
    cases vx <;> simp only [isNil, Option.some.injEq, reduceCtorEq] at h1 <;> first | (subst h1; cases kx; exact ⟨fun d => by simp [Op.equalIn, run_underlying hu], by simp, by simp, rfl, rfl⟩) | (split at h1 <;> first | (cases h1; done) | (rename_i hne; simp only [Option.some.injEq] at h1; subst h1; cases kx <;> first | exact absurd rfl hne | exact ⟨fun d => by simp [Op.equalIn, run_underlying hu], by simp, by simp, rfl, rfl⟩))

section
variable {P : Program} {w0 w : World} {φ : Pc} {S S' : Store} {ev : AX → AV} {ρ : Operand → Value} {tr : Operand → Option AX} {cf : CallF} {o : Oper} {v : AV}
  (hr : Rel w0 φ S w) (hρ : ∀ x ax, tr x = some ax → V w0 φ (ev ax) (ρ x))
include hr hρ

theorem ok_una {op : UnOp} {t : TypeId} {x : Operand} (ho : o.op = .unOp op t x) {ao : AOp} (hc : compOp P tr o.op = some ao) (ha : aop cf S ev ao = some (v, S')) : Gives w0 φ S' v ((execOp ρ o).run P w) := by
  rw [ho] at hc
  obtain ⟨ax, hx, rfl⟩ := Option.map_eq_some_iff.1 hc
  have k := hρ _ _ hx
  simp only [aop, Option.map_eq_some_iff, Prod.mk.injEq] at ha
  obtain ⟨v', h, rfl, rfl⟩ := ha
  unfold auna at h
  split at h
  · rename_i i n he
    rw [he] at k; have e := k.int_inv
    cases op <;> simp only [Option.some.injEq, reduceCtorEq] at h
    subst h
    exact gives_value hr (by simp [execOp, ho, e, Op.unary, Op.intArith]) (.int _ _)
  · rename_i b he
    rw [he] at k; have e := k.bool_inv
    cases op <;> simp only [Option.some.injEq, reduceCtorEq] at h
    subst h
    exact gives_value hr (by simp [execOp, ho, e, Op.unary]) (.bool _)
  · cases h

theorem ok_mkfn {fn : Fn} {first cap : Array Operand} (ho : o.op = .makeFunc fn first cap) {ao : AOp} (hc : compOp P tr o.op = some ao) (ha : aop cf S ev ao = some (v, S'))
    (hevs : ∀ xs xas, trs tr xs = some xas → Vs w0 φ (evs ev xas) (xs.map ρ)) : Gives w0 φ S' v ((execOp ρ o).run P w) := by
  rw [ho] at hc
  cases fn <;> simp only [compOp, reduceCtorEq] at hc
  split at hc
  · rename_i f hz
    obtain ⟨xas, h1, rfl⟩ := Option.map_eq_some_iff.1 hc
    simp only [aop, Option.some.injEq, Prod.mk.injEq] at ha
    obtain ⟨rfl, rfl⟩ := ha
    have k := hevs _ _ h1
    have hf : first = #[] := Array.eq_empty_of_size_eq_zero hz
    refine gives_value hr (cv := .func (.func f) #[] (cap.toList.map ρ).toArray) ?_ (.fn k.1 k.2)
    simp [execOp, ho, Instr.makeFunc, hf]
    rw [← Array.toList_map, Array.toArray_toList]
  · cases hc

theorem ok_ext {x : Operand} {i : Nat} (ho : o.op = .extract x i) {ao : AOp} (hc : compOp P tr o.op = some ao) (ha : aop cf S ev ao = some (v, S')) : Gives w0 φ S' v ((execOp ρ o).run P w) := by
  rw [ho] at hc
  obtain ⟨ax, hx, rfl⟩ := Option.map_eq_some_iff.1 hc
  have k := hρ _ _ hx
  simp only [aop] at ha
  split at ha
  · rename_i vs he
    rw [he] at k; obtain ⟨cvs, e, h1⟩ := k.tup_inv
    obtain ⟨v', hv, hh⟩ := Option.map_eq_some_iff.1 ha; cases hh
    obtain ⟨cv, hcv, hV⟩ := h1.get hv
    exact gives_value hr (by simp [execOp, ho, Instr.extract, e, hcv]) hV
  · cases ha

theorem ok_sidx {t : TypeId} {x i : Operand} (ho : o.op = .index t x i) {ao : AOp} (hc : compOp P tr o.op = some ao) (ha : aop cf S ev ao = some (v, S')) : Gives w0 φ S' v ((execOp ρ o).run P w) := by
  rw [ho] at hc
  simp only [compOp] at hc
  split at hc
  · rename_i hu
    simp only [Option.bind_eq_some_iff, Option.map_eq_some_iff] at hc
    obtain ⟨ax, hx, ai, hi, rfl⟩ := hc
    have kx := hρ _ _ hx; have ki := hρ _ _ hi
    simp only [aop] at ha
    split at ha
    · rename_i s k j he1 he2
      rw [he1] at kx; rw [he2] at ki
      have e1 := kx.str_inv; have e2 := ki.int_inv
      split at ha
      · rename_i h0
        obtain ⟨c, hs, hh⟩ := Option.map_eq_some_iff.1 ha; cases hh
        refine gives_value hr (cv := .int .u8 c.toNat) ?_ (.int _ _)
        have : (⟨s.toArray⟩ : ByteArray)[j.toNat]? = some c := by
          have hlt := (List.getElem?_eq_some_iff.1 hs).1
          rw [getElem?_pos _ _ (by simpa [ByteArray.size] using hlt)]
          have := (List.getElem?_eq_some_iff.1 hs).2
          simpa [ByteArray.getElem_eq_getElem_data] using this
        simp [execOp, ho, Instr.index, e1, e2, asIntOf, run_underlying hu, h0, this]
      · cases ha
    · cases ha
  · cases hc

theorem ok_iaddr {t : TypeId} {x i : Operand} (ho : o.op = .indexAddr t x i) {ao : AOp} (hc : compOp P tr o.op = some ao) (ha : aop cf S ev ao = some (v, S')) : Gives w0 φ S' v ((execOp ρ o).run P w) := by
  rw [ho] at hc
  simp only [compOp] at hc
  split at hc
  · rename_i e hu
    simp only [Option.bind_eq_some_iff, Option.map_eq_some_iff] at hc
    obtain ⟨sz, hz, ax, hx, ai, hi, rfl⟩ := hc
    have hs := run_size (w := w) hz
    have kx := hρ _ _ hx; have ki := hρ _ _ hi
    have run : ∀ a n c k j, ρ x = .slice (some a) n c → ρ i = .int k j → 0 ≤ j → j < n → (execOp ρ o).run P w = .ok (.value (.pointer (some (a.add (j.toNat * sz))))) w := fun a n c k j e1 e2 h0 h1 => by
      simp [execOp, ho, Instr.indexAt, e1, e2, asIntOf, run_underlying hu, h0, h1, hs.1]
    simp only [aop] at ha
    split at ha
    · rename_i cs n k j he1 he2
      rw [he1] at kx; rw [he2] at ki
      have e2 := ki.int_inv
      split at ha
      · rename_i hj
        cases ha
        obtain ⟨a, c, cvs, e1, h1, h2, h3⟩ | ⟨_, h0, _⟩ := kx.csl_inv
        rotate_left
        · omega
        refine gives_value hr (run a n c k j e1 e2 hj.1 hj.2) (.mkCptr (h1.drop _) fun m u hm => ?_)
        rw [add_add]; rw [List.getElem?_drop] at hm; exact h3 _ _ hm
      · cases ha
    · rename_i id off n sz' k j he1 he2
      rw [he1] at kx; rw [he2] at ki
      obtain ⟨a, c, p, e1, hp, h1, h2, h3, h4, h5, h6⟩ := kx.sl_inv; have e2 := ki.int_inv
      split at ha
      · rename_i hj
        cases ha
        obtain ⟨hj0, hj1, rfl⟩ := hj
        have hcp : 0 < c := by omega
        refine gives_value hr (run a n c k j e1 e2 hj0 hj1) ?_
        rw [h1 hcp, add_none, Nat.add_assoc]; exact .ptr hp
      · cases ha
    · rename_i id off n c sz' k j he1 he2
      rw [he1] at kx; rw [he2] at ki
      obtain ⟨a, p, e1, hp, h1, h2, h4, h5⟩ := kx.slc_inv; have e2 := ki.int_inv
      split at ha
      · rename_i hj
        cases ha
        obtain ⟨hj0, hj1, rfl⟩ := hj
        have hcp : 0 < c := by omega
        refine gives_value hr (run a n c k j e1 e2 hj0 hj1) ?_
        rw [h1 hcp, add_none, Nat.add_assoc]; exact .ptr hp
      · cases ha
    · cases ha
  · rename_i len e hu
    simp only [Option.bind_eq_some_iff, Option.map_eq_some_iff] at hc
    obtain ⟨sz, hz, ax, hx, ai, hi, rfl⟩ := hc
    have hs := run_size (w := w) hz
    have kx := hρ _ _ hx; have ki := hρ _ _ hi
    have run : ∀ a k j, ρ x = .pointer (some a) → ρ i = .int k j → 0 ≤ j → j < len → (execOp ρ o).run P w = .ok (.value (.pointer (some (a.add (j.toNat * sz))))) w := fun a k j e1 e2 h0 h1 => by
      simp [execOp, ho, Instr.indexAt, e1, e2, asIntOf, run_underlying hu, h0, h1, hs.1, Instr.sureAddr]
    simp only [aop] at ha
    split at ha
    · rename_i cs k j he1 he2
      rw [he1] at kx; rw [he2] at ki
      obtain ⟨a, cvs, e1, h1, h3⟩ := kx.cptr_inv; have e2 := ki.int_inv
      split at ha
      · rename_i hj
        cases ha
        refine gives_value hr (run a k j e1 e2 hj.1 hj.2) (.mkCptr (h1.drop _) fun m u hm => ?_)
        rw [add_add]; rw [List.getElem?_drop] at hm; exact h3 _ _ hm
      · cases ha
    · rename_i id off k j he1 he2
      rw [he1] at kx; rw [he2] at ki
      obtain ⟨p, hp, e1⟩ := kx.ptr_inv; have e2 := ki.int_inv
      split at ha
      · rename_i hj
        cases ha
        refine gives_value hr (run _ k j e1 e2 hj.1 hj.2) ?_
        rw [add_none, Nat.add_assoc]; exact .ptr hp
      · cases ha
    · cases ha
  · cases hc

theorem ok_eqb {op : BinOp} {t u : TypeId} {x y : Operand} (ho : o.op = .binOp op t x y u) {neg : Bool} {ax ay : AX} (hop : op = if neg then .neq else .eql) (hu : P.underlying t = some .bool) (hx : tr x = some ax) (hy : tr y = some ay)
    (ha : aop cf S ev (.eqb neg ax ay) = some (v, S')) : Gives w0 φ S' v ((execOp ρ o).run P w) := by
  have kx := hρ _ _ hx; have ky := hρ _ _ hy
  simp only [aop] at ha
  split at ha
  · rename_i a b he1 he2
    rw [he1] at kx; rw [he2] at ky
    have e1 := kx.bool_inv; have e2 := ky.bool_inv
    cases ha
    have hg := guard_ok (P := P) (w := w) op t x y (ρ x) (ρ y) (by rw [e1]; simp) (by rw [e1]; simp)
    rw [e1, e2] at hg
    refine gives_value hr (cv := .bool (if neg then a != b else a == b)) ?_ (.bool _)
    subst hop
    have he := equal_bool (w := w) hu a b
    cases neg
    · simp only [Bool.false_eq_true, if_false] at ho hg ⊢
      simp [execOp, ho, e1, e2, hg, bin_eql_bool, he]
    · simp only [if_true] at ho hg ⊢
      simp [execOp, ho, e1, e2, hg, bin_neq_bool, he]; cases a <;> cases b <;> rfl
  · cases ha

theorem ok_eqn {op : BinOp} {t u : TypeId} {x y : Operand} (ho : o.op = .binOp op t x y u) {neg : Bool} {cls : Nat} {ax ay : AX} (hop : op = if neg then .neq else .eql) (hu : nilClass P t = some cls) (hx : tr x = some ax) (hy : tr y = some ay)
    (ha : aop cf S ev (.eqn neg cls ax ay) = some (v, S')) : Gives w0 φ S' v ((execOp ρ o).run P w) := by
  have kx := hρ _ _ hx; have ky := hρ _ _ hy
  simp only [aop] at ha
  split at ha
  · rename_i a he1 he2
    cases ha
    have key := key_nil (w := w) hu he1 he2 kx ky
    have he : (Op.equal t (ρ x) (ρ y)).run P w = .ok a w := key.1 9999
    have hg := guard_ok (P := P) (w := w) op t x y (ρ x) (ρ y) key.2.1 key.2.2.1
    refine gives_value hr (cv := .bool (if neg then !a else a)) ?_ (.bool _)
    subst hop
    cases neg
    · simp only [Bool.false_eq_true, if_false] at ho hg ⊢
      simp [execOp, ho, hg, key.2.2.2.1, he]
    · simp only [if_true] at ho hg ⊢
      simp [execOp, ho, hg, key.2.2.2.2, he]
  · cases ha

end
end Go.Proofs.YtaajlbbooneiiaaDoor.Avm
set_option linter.unusedVariables false
set_option linter.unusedSimpArgs false
set_option linter.unusedSectionVars false
namespace Go.Proofs.YtaajlbbooneiiaaDoor.Avm
open Go.RowKit

theorem aeq1_run {P : Program} {w0 w : World} {φ : Pc} {k : Nat} {a b : AV} {ca cb : Value} {t : TypeId} {r : Bool}
    (ht : (match P.underlying t with | some (.int _) => some 0 | some .string => some 1 | some .bool => some 2 | _ => none) = some k)
    (h : aeq1 k a b = some r) (ka : V w0 φ a ca) (kb : V w0 φ b cb) (d : Nat) : (Op.equalIn (d + 1) t ca cb).run P w = .ok r w := by
  unfold aeq1 at h
  split at h
  · rename_i i x j y
    have := ka.int_inv; have := kb.int_inv; subst ca cb
    split at ht <;> simp only [Option.some.injEq, reduceCtorEq, Nat.reduceEqDiff] at ht
    rename_i q hu
    split at h
    · rename_i hij; subst hij; cases h
      rw [run_equalIn_int w d t i q x y hu]
      congr 1
    · cases h
  · rename_i x y
    have := ka.str_inv; have := kb.str_inv; subst ca cb
    split at ht <;> simp only [Option.some.injEq, reduceCtorEq, Nat.reduceEqDiff] at ht
    rename_i hu
    cases h
    rw [run_equalIn_string w d t _ _ hu]
    simp only [ByteArray.toList_eq, beqd]
  · rename_i x y
    have := ka.bool_inv; have := kb.bool_inv; subst ca cb
    split at ht <;> simp only [Option.some.injEq, reduceCtorEq, Nat.reduceEqDiff] at ht
    rename_i hu
    cases h
    exact run_equalIn_bool' w d t x y hu
  · cases h

theorem part_scalar {P : Program} {w : World} {t : TypeId} {k : Nat} (ht : (match P.underlying t with | some (.int _) => some 0 | some .string => some 1 | some .bool => some 2 | _ => none) = some k)
    {xs : Array Value} {i : Nat} {cv : Value} (h : xs[i]? = some cv) : (part t xs i).run P w = .ok cv w := by
  split at ht <;> simp only [Option.some.injEq, reduceCtorEq] at ht
  all_goals (rename_i hu; simp [part, isAgg, run_underlying hu, h])

theorem fields_run {P : Program} {w0 w : World} {φ : Pc} {xs ys : List AV} {cx cy : List Value} (hx : Vs w0 φ xs cx) (hy : Vs w0 φ ys cy) (d : Nat) : ∀ (fs : List Field) (i : Nat) (ks : List Nat) (r : Bool),
    scalarFields P i fs = some ks → aeqs ks (xs.drop i) (ys.drop i) = some r → (Op.eqFields (d + 1) cx.toArray cy.toArray fs).run P w = .ok r w := by
  intro fs
  induction fs with
  | nil =>
    intro i ks r h1 h2
    simp only [scalarFields, Option.some.injEq] at h1; subst h1
    unfold aeqs at h2
    split at h2 <;> simp_all [Op.eqFields]
  | cons f fs ih =>
    intro i ks r h1 h2
    simp only [scalarFields] at h1
    split at h1
    · rename_i hf
      obtain ⟨k, hk, h1⟩ := Option.bind_eq_some_iff.1 h1
      obtain ⟨ks', h3, rfl⟩ := Option.map_eq_some_iff.1 h1
      cases hxd : xs.drop i with
      | nil => rw [hxd] at h2; simp [aeqs] at h2
      | cons a xas =>
        cases hyd : ys.drop i with
        | nil => rw [hxd, hyd] at h2; simp [aeqs] at h2
        | cons b bs =>
          rw [hxd, hyd] at h2
          simp only [aeqs] at h2
          obtain ⟨q, hq, h2⟩ := Option.bind_eq_some_iff.1 h2
          have ha : xs[i]? = some a := by have := congrArg (·[0]?) hxd; simpa [List.getElem?_drop] using this
          have hb : ys[i]? = some b := by have := congrArg (·[0]?) hyd; simpa [List.getElem?_drop] using this
          have has : xas = xs.drop (i + 1) := by rw [← List.drop_drop, hxd]; rfl
          have hbs : bs = ys.drop (i + 1) := by rw [← List.drop_drop, hyd]; rfl
          obtain ⟨ca, e1, k1⟩ := hx.get ha
          obtain ⟨cb, e2, k2⟩ := hy.get hb
          have p1 := part_scalar (w := w) hk (xs := cx.toArray) (i := i) (by simpa using e1)
          have p2 := part_scalar (w := w) hk (xs := cy.toArray) (i := i) (by simpa using e2)
          have p3 := aeq1_run (w := w) hk hq k1 k2 d
          simp only [Op.eqFields, if_pos hf.2, hf.1, Sem.run_bind, p1, p2, p3, Result.andThen_ok]
          cases q with
          | false => simp only [Bool.false_eq_true, if_false, Option.some.injEq] at h2; subst h2; simp
          | true =>
            simp only [if_true] at h2
            rw [has, hbs] at h2
            simpa using ih (i + 1) ks' r h3 h2
    · cases h1

/-- structs of scalars, compared -/
theorem struct_eq {P : Program} {w0 w : World} {φ : Pc} {t : TypeId} {ks : List Nat} (hs : scalarStruct P t = some ks) {xs ys : List AV} {cx cy : List Value} (hx : Vs w0 φ xs cx) (hy : Vs w0 φ ys cy) {r : Bool} (h : aeqs ks xs ys = some r) (d : Nat) :
    (Op.equalIn (d + 2) t (.agg cx.toArray) (.agg cy.toArray)).run P w = .ok r w ∧ P.eqGuardType P.depth t = false := by
  unfold scalarStruct at hs
  split at hs
  · rename_i fs hu
    split at hs
    · rename_i hh
      have hf : P.fieldsOf t = fs := by simp [Program.fieldsOf, hu]
      refine ⟨?_, hh.2⟩
      rw [run_equalIn_struct w (d + 1) t _ _ (by rw [hf]; exact hu) hh.1, hf]
      exact fields_run hx hy d fs.toList 0 ks r hs (by simpa using h)
    · cases hs
  · cases hs

section
variable {P : Program} {w0 w : World} {φ : Pc} {S S' : Store} {ev : AX → AV} {ρ : Operand → Value} {tr : Operand → Option AX} {cf : CallF} {o : Oper} {v : AV}
  (hr : Rel w0 φ S w) (hρ : ∀ x ax, tr x = some ax → V w0 φ (ev ax) (ρ x))
include hr hρ

theorem ok_eqs {op : BinOp} {t u : TypeId} {x y : Operand} (ho : o.op = .binOp op t x y u) {neg : Bool} {ks : List Nat} {ax ay : AX} (hop : op = if neg then .neq else .eql) (hu : scalarStruct P t = some ks) (hx : tr x = some ax) (hy : tr y = some ay)
    (ha : aop cf S ev (.eqs neg ks ax ay) = some (v, S')) : Gives w0 φ S' v ((execOp ρ o).run P w) := by
  have kx := hρ _ _ hx; have ky := hρ _ _ hy
  simp only [aop] at ha
  split at ha
  · rename_i a b he1 he2
    rw [he1] at kx; rw [he2] at ky
    obtain ⟨cx, e1, h1⟩ := kx.agg_inv; obtain ⟨cy, e2, h2⟩ := ky.agg_inv
    split at ha
    · obtain ⟨r, hq, hh⟩ := Option.map_eq_some_iff.1 ha; cases hh
      have he := struct_eq (w := w) hu h1.1 h2.1 hq 9998
      have hg := run_eqGuard_agg (P := P) w op t x y cx.toArray cy.toArray he.2
      refine gives_value hr (cv := .bool (if neg then !r else r)) ?_ (.bool _)
      subst hop
      cases neg
      · simp only [Bool.false_eq_true, if_false] at ho hg ⊢
        simp [execOp, ho, e1, e2, hg, run_eql_struct, he.1]
      · simp only [if_true] at ho hg ⊢
        simp [execOp, ho, e1, e2, hg, run_neq_struct, he.1]
    · cases ha
  · cases ha

theorem ok_i2i {s d : TypeId} {x : Operand} (ho : o.op = .convert s d x) {i k : IntKind} {ax : AX} (hs : P.underlying s = some (.int i)) (hd : P.underlying d = some (.int k)) (hx : tr x = some ax)
    (ha : aop cf S ev (.i2i k ax) = some (v, S')) : Gives w0 φ S' v ((execOp ρ o).run P w) := by
  have kx := hρ _ _ hx
  simp only [aop] at ha
  split at ha
  · rename_i q n he
    rw [he] at kx; have e := kx.int_inv
    cases ha
    exact gives_value hr (by simp [execOp, ho, e, convert, run_underlying hs, run_underlying hd, Conv.intToInt]) (.int _ _)
  · cases ha

theorem ok_same {s d : TypeId} {x : Operand} (ho : o.op = .convert s d x) {ax : AX} (hs : P.underlying s = some .string) (hd : P.underlying d = some .string) (hx : tr x = some ax)
    (ha : aop cf S ev (.same ax) = some (v, S')) : Gives w0 φ S' v ((execOp ρ o).run P w) := by
  have kx := hρ _ _ hx
  simp only [aop] at ha
  split at ha
  · rename_i q he
    rw [he] at kx; have e := kx.str_inv
    cases ha
    exact gives_value hr (by simp [execOp, ho, e, convert, run_underlying hs, run_underlying hd]) (.str' _)
  · cases ha

theorem size_mk (l : List UInt8) : (⟨l.toArray⟩ : ByteArray).size = l.length := rfl
theorem call_builtin {c : Call} {b : Builtin} (ho : o.op = .call c) (hcl : c.callee = .builtin b) {vs : List Value} (hvs : c.args.toList.map ρ = vs) :
    ∃ cs, (execOp ρ o).run P w = (builtin b c.argTypes o.type cs vs.toArray).run P w := by
  have : c.args.map ρ = vs.toArray := by rw [← hvs, ← Array.toList_map, Array.toArray_toList]
  exact ⟨_, by simp only [execOp, ho, resolve, hcl, this, Sem.run_bind, Sem.run_pure, Result.andThen_ok, invoke]; rfl⟩

theorem ok_len {c : Call} {x : Operand} {t : TypeId} (ho : o.op = .call c) (hcl : c.callee = .builtin .len) (hcx : c.args.toList = [x]) (ht : c.argTypes[0]? = some t) {b : Bool} {ax : AX} (hx : tr x = some ax)
    (hu : if b then P.underlying t = some .string else ∃ e, P.underlying t = some (.slice e)) (ha : aop cf S ev (.len b ax) = some (v, S')) : Gives w0 φ S' v ((execOp ρ o).run P w) := by
  have kx := hρ _ _ hx
  have run : ∀ r, (Builtin.len_ c.argTypes o.type #[ρ x]).run P w = .ok r w → (execOp ρ o).run P w = .ok (.value r) w := fun r hr' => by
    obtain ⟨cs, hcs⟩ := call_builtin (P := P) hr hρ ho hcl (vs := [ρ x]) (by rw [hcx]; rfl)
    rw [hcs]; simp [builtin, hr']
  simp only [aop] at ha
  split at ha
  · rename_i s he
    rw [he] at kx; have e := kx.str_inv; cases ha
    rw [if_pos rfl] at hu
    exact gives_value hr (run (.int .i64 s.length) (by simp only [Builtin.len_, ht, e, Sem.run_bind, run_underlying hu, goInt, List.getElem?_toArray, List.getElem?_cons_zero, Result.andThen_ok, Sem.run_pure]; rfl)) (.int _ _)
  · rename_i he
    rw [he] at kx; have e := kx.nilS_inv; cases ha
    rw [if_neg (by simp)] at hu; obtain ⟨el, hu⟩ := hu
    exact gives_value hr (run (.int .i64 0) (by simp [Builtin.len_, ht, e, run_underlying hu, goInt])) (.int _ _)
  · rename_i he
    rw [he] at kx; obtain ⟨b', e⟩ := kx.emp_inv; cases ha
    rw [if_neg (by simp)] at hu; obtain ⟨el, hu⟩ := hu
    exact gives_value hr (run (.int .i64 0) (by simp [Builtin.len_, ht, e, run_underlying hu, goInt])) (.int _ _)
  · rename_i he
    rw [he] at kx; obtain ⟨a', c', e⟩ := kx.nsl_inv; cases ha
    rw [if_neg (by simp)] at hu; obtain ⟨el, hu⟩ := hu
    exact gives_value hr (run (.int .i64 0) (by simp [Builtin.len_, ht, e, run_underlying hu, goInt])) (.int _ _)
  · rename_i cs n he
    rw [he] at kx; cases ha
    rw [if_neg (by simp)] at hu; obtain ⟨el, hu⟩ := hu
    obtain ⟨a, c', cvs, e, _⟩ | ⟨_, rfl, e⟩ := kx.csl_inv
    · exact gives_value hr (run (.int .i64 n) (by simp [Builtin.len_, ht, e, run_underlying hu, goInt])) (.int _ _)
    · exact gives_value hr (run (.int .i64 0) (by simp [Builtin.len_, ht, e, run_underlying hu, goInt])) (.int _ _)
  · rename_i id off n sz he
    rw [he] at kx; obtain ⟨a, c', p, e, _⟩ := kx.sl_inv; cases ha
    rw [if_neg (by simp)] at hu; obtain ⟨el, hu⟩ := hu
    exact gives_value hr (run (.int .i64 n) (by simp [Builtin.len_, ht, e, run_underlying hu, goInt])) (.int _ _)
  · rename_i id off n c sz he
    rw [he] at kx; obtain ⟨a, p, e, _⟩ := kx.slc_inv; cases ha
    rw [if_neg (by simp)] at hu; obtain ⟨el, hu⟩ := hu
    exact gives_value hr (run (.int .i64 n) (by simp [Builtin.len_, ht, e, run_underlying hu, goInt])) (.int _ _)
  · cases ha

/-- an optional bound -/
theorem opt_run {d : Int} {x : Option Operand} {ax : Option AX} {l : Int} (hx : trO tr x = some ax) (h : optInt ev d ax = some l) :
    match x with | none => l = d | some y => ∃ k, ρ y = .int k l := by
  cases x with
  | none => simp only [trO, Option.some.injEq] at hx; subst hx; simpa [optInt] using h.symm
  | some y =>
    simp only [trO, Option.map_eq_some_iff] at hx
    obtain ⟨a, hy, rfl⟩ := hx
    have k := hρ _ _ hy
    simp only [optInt] at h
    split at h
    · rename_i q n he; rw [he] at k; cases h; exact ⟨q, k.int_inv⟩
    · cases h

theorem run_bound {x : Value} {k : IntKind} {i : Int} {y : Nat} {code : BoundsCode} (e : x = .int k i) (h0 : 0 ≤ i) (h1 : i ≤ y) : (Instr.sliceBound x y code).run P w = .ok i.toNat w := by
  subst e; simp [Instr.sliceBound, asIntOf, h0, h1]

theorem run_bounds {lo hi mx : Option Operand} {alo ahi amx : Option AX} {isS : Bool} {len cap : Nat} {l h m : Int} (hlo : trO tr lo = some alo) (hhi : trO tr hi = some ahi) (hmx : trO tr mx = some amx)
    (el : optInt ev 0 alo = some l) (eh : optInt ev len ahi = some h) (em : optInt ev cap amx = some m) (h0 : 0 ≤ l) (h1 : l ≤ h) (h2 : h ≤ m) (h3 : m ≤ cap) (hh : mx.isNone ∨ hi.isSome) :
    (Instr.sliceBounds isS len cap (lo.map ρ) (hi.map ρ) (mx.map ρ)).run P w = .ok (l.toNat, h.toNat, m.toNat) w := by
  have a := opt_run hr hρ hlo el
  have b := opt_run hr hρ hhi eh
  have c := opt_run hr hρ hmx em
  have q1 : l ≤ (h.toNat : Int) := by omega
  have q2 : h ≤ (m.toNat : Int) := by omega
  have r1 : ∀ y code, ρ y = .int code l → ∀ (z : Nat) bc, l ≤ (z : Int) → (Instr.sliceBound (ρ y) z bc).run P w = .ok l.toNat w := fun y k e z bc hz => run_bound hr hρ e h0 hz
  have r2 : ∀ y code, ρ y = .int code h → ∀ (z : Nat) bc, h ≤ (z : Int) → (Instr.sliceBound (ρ y) z bc).run P w = .ok h.toNat w := fun y k e z bc hz => run_bound hr hρ e (by omega) hz
  have r3 : ∀ y code, ρ y = .int code m → ∀ (z : Nat) bc, m ≤ (z : Int) → (Instr.sliceBound (ρ y) z bc).run P w = .ok m.toNat w := fun y k e z bc hz => run_bound hr hρ e (by omega) hz
  cases mx with
  | none =>
    simp only at c; subst c
    cases hi with
    | none =>
      simp only at b; subst b
      cases lo with
      | none => simp only at a; subst a; simp [Instr.sliceBounds]
      | some y => obtain ⟨k, e⟩ := a; simp [Instr.sliceBounds, r1 y k e _ _ h1]
    | some y2 =>
      obtain ⟨k2, e2⟩ := b
      cases lo with
      | none => simp only at a; subst a; simp [Instr.sliceBounds, r2 y2 k2 e2 _ _ h2]
      | some y => obtain ⟨k, e⟩ := a; simp [Instr.sliceBounds, r2 y2 k2 e2 _ _ h2, r1 y k e _ _ q1]
  | some y3 =>
    obtain ⟨k3, e3⟩ := c
    cases hi with
    | none => simp at hh
    | some y2 =>
      obtain ⟨k2, e2⟩ := b
      cases lo with
      | none => simp only at a; subst a; simp [Instr.sliceBounds, r3 y3 k3 e3 _ _ h3, r2 y2 k2 e2 _ _ q2]
      | some y => obtain ⟨k, e⟩ := a; simp [Instr.sliceBounds, r3 y3 k3 e3 _ _ h3, r2 y2 k2 e2 _ _ q2, r1 y k e _ _ q1]

theorem ok_sslice {t : TypeId} {x : Operand} {lo hi : Option Operand} {alo ahi : Option AX} {ax : AX} (ho : o.op = .slice t x lo hi none) (hu : P.underlying t = some .string) (hx : tr x = some ax) (hlo : trO tr lo = some alo) (hhi : trO tr hi = some ahi)
    (ha : aop cf S ev (.sslice ax alo ahi) = some (v, S')) : Gives w0 φ S' v ((execOp ρ o).run P w) := by
  have kx := hρ _ _ hx
  simp only [aop] at ha
  split at ha
  · rename_i s he
    rw [he] at kx; have e := kx.str_inv
    simp only [Option.bind_eq_some_iff] at ha
    obtain ⟨l, el, h, eh, ha⟩ := ha
    split at ha
    · rename_i hb
      cases ha
      have := run_bounds (P := P) (w := w) hr hρ (isS := false) (len := s.length) (cap := s.length) (m := s.length) hlo hhi (mx := none) (amx := none) rfl el eh rfl hb.1 hb.2.1 hb.2.2 (Int.le_refl _) (.inl rfl)
      simp only [Option.map_none] at this
      refine gives_value hr (cv := .string ((⟨s.toArray⟩ : ByteArray).extract l.toNat h.toNat)) ?_ ?_
      · have this : (Instr.sliceBounds false (⟨s.toArray⟩ : ByteArray).size (⟨s.toArray⟩ : ByteArray).size (lo.map ρ) (hi.map ρ) none).run P w = .ok (l.toNat, h.toNat, ((s.length : Int)).toNat) w := this
        simp only [execOp, ho, Instr.sliceAt, Sem.run_bind, run_underlying hu, Result.andThen_ok, Instr.slice, e, Option.map_none, Option.isSome_none, Bool.false_eq_true, if_false, this, Sem.run_pure, pure_bind]
      · have : ((⟨s.toArray⟩ : ByteArray).extract l.toNat h.toNat) = ⟨((s.drop l.toNat).take (h.toNat - l.toNat)).toArray⟩ := by
          apply WideShapes.bytes_inj
          rw [ByteArray.data_extract]
          simp [List.extract_eq_drop_take', List.take_drop]
        rw [this]; exact .str' _
    · cases ha
  · cases ha
end
end Go.Proofs.YtaajlbbooneiiaaDoor.Avm
