/- The store and the world: what is read, written, made. -/
import Derived.Test.YtmijfhepagobdaaA3
import Derived.Laws.AppendOwn
import Derived.Laws.IdiomCopy
import Derived.Laws.Cells
import Derived.Laws.Rows
set_option linter.unusedVariables false
set_option linter.unusedSimpArgs false
namespace Go.Proofs.Ytmijfhepagobdaa.Avm
open Go.RowKit

section
variable {w0 w w' : World} {φ φ' : Pc} {S : Store} {p : Pl} {id : Nat}

theorem objRel.mono (hx : Ext φ φ') {x : AObj} (h : objRel w0 φ w p x) : objRel w0 φ' w p x := by
  cases x with
  | cells cs =>
    obtain ⟨h1, h2, ccs, e, fr, h3, h4, h5, h6, h7⟩ := h
    exact ⟨h1, h2, ccs, e, fr, h3, h4, h5, h6, fun j v hv => let ⟨cv, a, b, c⟩ := h7 j v hv; ⟨cv, a, b.mono hx, c⟩⟩
  | map es =>
    obtain ⟨h2, ces, clk, h3, h4, h5⟩ := h
    exact ⟨h2, ces, clk, h3, h4, fun j k v e a b => ⟨(h5 j k v e a b).1.mono hx, (h5 j k v e a b).2.mono hx⟩⟩
  | chan cap buf =>
    obtain ⟨h2, cb, s, r, h3, h4⟩ := h
    exact ⟨h2, cb, s, r, h3, h4.mono hx⟩
  | dead => trivial

theorem objRel.heap {x : AObj} (hh : w'.heap[p.b]? = w.heap[p.b]?) (h : objRel w0 φ w p x) : objRel w0 φ w' p x := by
  cases x with
  | cells cs =>
    obtain ⟨h1, h2, ccs, e, fr, h3, h4, h5, h6, h7⟩ := h
    exact ⟨h1, h2, ccs, e, fr, by rw [hh]; exact h3, h4, h5, h6, h7⟩
  | map es =>
    obtain ⟨h2, ces, clk, h3, h4, h5⟩ := h
    exact ⟨h2, ces, clk, by rw [hh]; exact h3, h4, h5⟩
  | chan cap buf =>
    obtain ⟨h2, cb, s, r, h3, h4⟩ := h
    exact ⟨h2, cb, s, r, by rw [hh]; exact h3, h4⟩
  | dead => trivial

theorem objRel.lt {x : AObj} (hl : live x) (h : objRel w0 φ w p x) : w0.heap.size ≤ p.b ∧ p.b < w.heap.size := by
  have key : ∀ o, w.heap[p.b]? = some o → p.b < w.heap.size := fun o ho => (Array.getElem?_eq_some_iff.1 ho).1
  cases x with
  | cells cs => obtain ⟨h1, h2, ccs, e, fr, h3, _⟩ := h; exact ⟨h2, key _ h3⟩
  | map es => obtain ⟨h2, ces, clk, h3, _⟩ := h; exact ⟨h2, key _ h3⟩
  | chan cap buf => obtain ⟨h2, cb, s, r, h3, _⟩ := h; exact ⟨h2, key _ h3⟩
  | dead => exact hl.elim

theorem Rel.place (h : Rel w0 φ S w) {x : AObj} (hx : S[id]? = some x) : ∃ p, φ.pl[id]? = some p := by
  have : id < φ.pl.length := by rw [h.len]; exact (List.getElem?_eq_some_iff.1 hx).1
  exact ⟨φ.pl[id], List.getElem?_eq_getElem this⟩

theorem Rel.grown (h : Rel w0 φ S w) (hg : w.grownBy w' none) : Rel w0 φ S w' where
  below := h.below.grown hg h.below.size (fun _ hk => by cases hk)
  len := h.len
  fz := fun a cv ha => by
    have hc := h.fz a cv ha
    have := World.block_lt_of_cell? w a hc
    simp only [World.cell?] at hc ⊢; rw [hg.block _ this (by simp)]; exact hc
  fzb := h.fzb
  inj := h.inj
  obj := fun i q x hq hx => by
    by_cases hl : live x
    · exact (h.obj i q x hq hx).heap (hg.block _ ((h.obj i q x hq hx).lt hl).2 (by simp))
    · cases x <;> first | trivial | exact absurd trivial hl

theorem Rel.set (h : Rel w0 φ S w) (hp : φ.pl[id]? = some p) {x x' : AObj} (hx : S[id]? = some x) (hl : live x) (hg : w.grownBy w' (some p.b)) (ho : objRel w0 φ w' p x') :
    Rel w0 φ (S.set id x') w' where
  below := h.below.grown hg h.below.size (fun k hk => by cases hk; exact ((h.obj _ _ _ hp hx).lt hl).1)
  len := by simp [h.len]
  fz := fun a cv ha => by
    have hc := h.fz a cv ha
    have h1 := World.block_lt_of_cell? w a hc
    have h2 := h.fzb a cv id p x ha hp hx hl
    simp only [World.cell?] at hc ⊢; rw [hg.block _ h1 (by simp; exact fun e => h2 e.symm)]; exact hc
  fzb := fun a cv i q y ha hq hy ly => by
    by_cases e : id = i
    · subst e
      rw [hp] at hq; cases hq
      exact h.fzb a cv id p x ha hp hx hl
    · rw [List.getElem?_set_ne e] at hy; exact h.fzb a cv i q y ha hq hy ly
  inj := fun i j a b y z ha hb hy hz ly lz hab => by
    have live' : ∀ i y, (S.set id x')[i]? = some y → live y → ∃ y', S[i]? = some y' ∧ live y' := fun i y hy ly => by
      by_cases e : id = i
      · subst e; exact ⟨x, hx, hl⟩
      · rw [List.getElem?_set_ne e] at hy; exact ⟨y, hy, ly⟩
    obtain ⟨y', hy', ly'⟩ := live' i y hy ly
    obtain ⟨z', hz', lz'⟩ := live' j z hz lz
    exact h.inj i j a b y' z' ha hb hy' hz' ly' lz' hab
  obj := fun i q y hq hy => by
    by_cases e : id = i
    · subst e
      rw [hp] at hq; cases hq
      rw [List.getElem?_set_self (List.getElem?_eq_some_iff.1 hx).1] at hy
      cases hy; exact ho
    · rw [List.getElem?_set_ne e] at hy
      by_cases ly : live y
      · have := h.obj i q y hq hy
        refine this.heap (hg.block _ (this.lt ly).2 fun hb => e ?_)
        exact (h.inj i id q p y x hq hp hy hx ly hl (by simpa using hb)).symm
      · cases y <;> first | trivial | exact absurd trivial ly

theorem Rel.kill (h : Rel w0 φ S w) (id : Nat) : Rel w0 φ (S.set id .dead) w where
  below := h.below
  len := by simp [h.len]
  fz := h.fz
  fzb := fun a cv i q y ha hq hy ly => by
    by_cases e : id = i
    · subst e
      rw [List.getElem?_set] at hy; simp at hy; obtain ⟨_, rfl⟩ := hy; exact ly.elim
    · rw [List.getElem?_set_ne e] at hy; exact h.fzb a cv i q y ha hq hy ly
  inj := fun i j a b y z ha hb hy hz ly lz hab => by
    have live' : ∀ i y, (S.set id .dead)[i]? = some y → live y → S[i]? = some y := fun i y hy ly => by
      by_cases e : id = i
      · subst e
        rw [List.getElem?_set] at hy; simp at hy; obtain ⟨_, rfl⟩ := hy; exact ly.elim
      · rwa [List.getElem?_set_ne e] at hy
    exact h.inj i j a b y z ha hb (live' i y hy ly) (live' j z hz lz) ly lz hab
  obj := fun i q y hq hy => by
    by_cases e : id = i
    · subst e
      rw [List.getElem?_set] at hy; simp at hy; obtain ⟨_, rfl⟩ := hy; trivial
    · rw [List.getElem?_set_ne e] at hy; exact h.obj i q y hq hy

theorem Rel.push (h : Rel w0 φ S w) {x : AObj} (hf : ∀ (i : Nat) (q : Pl) (y : AObj), φ.pl[i]? = some q → S[i]? = some y → live y → q.b ≠ p.b) (hz : ∀ (a : Addr) (cv : Value), φ.fz a = some cv → p.b ≠ a.block) (ho : objRel w0 φ w p x) :
    Rel w0 (φ.snoc p) (S ++ [x]) w where
  below := h.below
  len := by simp [h.len, Pc.snoc]
  fz := h.fz
  fzb := fun a cv i q y ha hq hy ly => by
    have hlen := h.len
    simp only [Pc.snoc] at hq ha
    rw [List.getElem?_append] at hq hy
    by_cases hi : i < S.length
    · rw [if_pos (by omega)] at hq; rw [if_pos hi] at hy
      exact h.fzb a cv i q y ha hq hy ly
    · rw [if_neg (by omega)] at hq
      have e : i - φ.pl.length = 0 := by
        have := (List.getElem?_eq_some_iff.1 hq).1; simp at this; omega
      rw [e] at hq; simp at hq; subst hq; exact hz a cv ha
  inj := fun i j a b y z ha hb hy hz ly lz hab => by
    have hlen := h.len
    simp only [Pc.snoc] at ha hb
    rw [List.getElem?_append] at ha hb hy hz
    by_cases hi : i < S.length <;> by_cases hj : j < S.length
    · rw [if_pos (by omega)] at ha hb
      rw [if_pos hi] at hy
      rw [if_pos hj] at hz
      exact h.inj i j a b y z ha hb hy hz ly lz hab
    · rw [if_pos (by omega)] at ha; rw [if_neg (by omega)] at hb
      rw [if_pos hi] at hy
      have e : j - φ.pl.length = 0 := by
        have := (List.getElem?_eq_some_iff.1 hb).1; simp at this; omega
      rw [e] at hb; simp at hb; subst hb
      exact absurd hab (hf i a y ha hy ly)
    · rw [if_neg (by omega)] at ha; rw [if_pos (by omega)] at hb
      rw [if_pos hj] at hz
      have e : i - φ.pl.length = 0 := by
        have := (List.getElem?_eq_some_iff.1 ha).1; simp at this; omega
      rw [e] at ha; simp at ha; subst ha
      exact absurd hab.symm (hf j b z hb hz lz)
    · have e1 : i - S.length = 0 := by
        rw [if_neg hi] at hy; have := (List.getElem?_eq_some_iff.1 hy).1; simp at this; omega
      have e2 : j - S.length = 0 := by
        rw [if_neg hj] at hz; have := (List.getElem?_eq_some_iff.1 hz).1; simp at this; omega
      omega
  obj := fun i q y hq hy => by
    have hlen := h.len
    simp only [Pc.snoc] at hq
    rw [List.getElem?_append] at hq hy
    by_cases hi : i < S.length
    · rw [if_pos (by omega)] at hq; rw [if_pos hi] at hy
      exact (h.obj i q y hq hy).mono (Ext.snoc _ _)
    · rw [if_neg (by omega)] at hq; rw [if_neg hi] at hy
      have e1 : i - S.length = 0 := by
        have := (List.getElem?_eq_some_iff.1 hy).1; simp at this; omega
      have e2 : i - φ.pl.length = 0 := by omega
      rw [e1] at hy; rw [e2] at hq; simp at hq hy; subst hq; subst hy
      exact ho.mono (Ext.snoc _ _)

/-- a block that is new -/
theorem Rel.fresh (h : Rel w0 φ S w) (hb : w.heap.size ≤ p.b) : ∀ (i : Nat) (q : Pl) (y : AObj), φ.pl[i]? = some q → S[i]? = some y → live y → q.b ≠ p.b := fun i q y hq hy ly => by
  have := ((h.obj i q y hq hy).lt ly).2; omega

theorem Rel.freshZ (h : Rel w0 φ S w) (hb : w.heap.size ≤ p.b) : ∀ (a : Addr) (cv : Value), φ.fz a = some cv → p.b ≠ a.block := fun a cv ha => by
  have := World.block_lt_of_cell? w a (h.fz a cv ha); omega

/-- cells read -/
theorem Rel.cells (h : Rel w0 φ S w) (hp : φ.pl[id]? = some p) {cs : List AV} (hx : S[id]? = some (.cells cs)) (off n : Nat) (hn : off + n ≤ cs.length) :
    ∃ cvs, Vc w0 φ ((cs.drop off).take n) cvs ∧ cvs.length = n ∧ ∀ j cv, cvs[j]? = some cv → w.cell? ⟨p.b, p.o + off + j, none⟩ = some cv := by
  obtain ⟨_, _, ccs, e, fr, h3, _, _, h6, h7⟩ := h.obj _ _ _ hp hx
  have hl : ∀ j, j < n → ∃ v, ((cs.drop off).take n)[j]? = some v := fun j hj => ⟨_, List.getElem?_eq_getElem (by simp; omega)⟩
  refine ⟨(List.range n).map fun j => ccs.getD (p.o + off + j) undef, ⟨⟨by simp; omega, fun j v cv hv hcv => ?_⟩, fun cv hcv => ?_⟩, by simp, fun j cv hcv => ?_⟩
  · have hj : j < n := by have := (List.getElem?_eq_some_iff.1 hcv).1; simpa using this
    rw [List.getElem?_take, if_pos hj, List.getElem?_drop] at hv
    obtain ⟨u, hu, hV, _⟩ := h7 _ v hv
    rw [List.getElem?_map, List.getElem?_range hj] at hcv
    simp at hcv
    have : ccs.getD (p.o + off + j) undef = u := by
      rw [Nat.add_assoc, Array.getD_eq_getD_getElem?, hu]; rfl
    rw [← hcv]; simp only [Array.getD_eq_getD_getElem?] at this ⊢; rw [this]; exact hV
  · obtain ⟨j, hj, rfl⟩ := List.mem_map.1 hcv
    have hj' : j < n := by simpa using hj
    obtain ⟨v, hv⟩ := hl j hj'
    rw [List.getElem?_take, if_pos hj', List.getElem?_drop] at hv
    obtain ⟨u, hu, _, ho⟩ := h7 _ v hv
    rw [Nat.add_assoc, Array.getD_eq_getD_getElem?, hu]; exact ho
  · have hj : j < n := by have := (List.getElem?_eq_some_iff.1 hcv).1; simpa using this
    rw [List.getElem?_map, List.getElem?_range hj] at hcv
    simp only [Option.map_some, Option.some.injEq] at hcv
    obtain ⟨v, hv⟩ := hl j hj
    rw [List.getElem?_take, if_pos hj, List.getElem?_drop] at hv
    obtain ⟨u, hu, _, _⟩ := h7 _ v hv
    rw [← Nat.add_assoc] at hu
    simp only [World.cell?, h3]
    rw [← hcv, Array.getD_eq_getD_getElem?, hu]; simp

theorem add_none (b o j : Nat) : (⟨b, o, none⟩ : Addr).add j = ⟨b, o + j, none⟩ := by unfold Addr.add; split <;> simp_all

/-- what setCells leaves -/
theorem setCells_heap (b : Nat) : ∀ (vs : List Value) (o : Nat) (w : World) (ccs : Array Value) (e : TypeId) (fr : Nat × Nat), w.heap[b]? = some (.cells ccs e fr) → o + vs.length ≤ ccs.size →
    (w.setCells b o vs).heap[b]? = some (.cells (ccs.toList.take o ++ vs ++ ccs.toList.drop (o + vs.length)).toArray e fr)
  | [], o, w, ccs, e, fr, h, hb => by
    simp only [World.setCells, List.append_nil, List.length_nil, Nat.add_zero, List.take_append_drop]
    rw [h]
  | v :: vs, o, w, ccs, e, fr, h, hb => by
    simp only [List.length_cons] at hb
    have h1 : (w.setCell ⟨b, o, none⟩ v).heap[b]? = some (.cells (ccs.setIfInBounds o v) e fr) := by
      simp [World.setCell, Array.getElem?_modify, h]
    rw [World.setCells, setCells_heap b vs (o + 1) _ _ e fr h1 (by simp; omega)]
    congr 3
    simp only [Array.toList_setIfInBounds, List.length_cons]
    have hlo : o < ccs.toList.length := by simp; omega
    rw [List.take_succ_eq_append_getElem (by simpa using hlo), List.take_set_of_le (Nat.le_refl _), List.getElem_set_self, List.drop_set_of_lt (by omega)]
    simp [List.append_assoc, Nat.add_assoc, Nat.add_comm 1]
theorem setCells_grown (b : Nat) : ∀ (vs : List Value) (o : Nat) (w : World), w.grownBy (w.setCells b o vs) (some b)
  | [], _, w => ⟨rfl, rfl, rfl, Nat.le_refl _, fun _ _ _ => rfl⟩
  | v :: vs, o, w => by
    have h1 : w.grownBy (w.setCell ⟨b, o, none⟩ v) (some b) := ⟨rfl, rfl, rfl, by simp [World.setCell], fun i hi hne => Below.heap_setCell w _ _ i (fun e => hne (by rw [e]))⟩
    have h2 := setCells_grown b vs (o + 1) (w.setCell ⟨b, o, none⟩ v)
    exact ⟨h2.os.trans h1.os, h2.tape.trans h1.tape, h2.output.trans h1.output, Nat.le_trans h1.size h2.size, fun i hi hne => (h2.block i (Nat.lt_of_lt_of_le hi h1.size) hne).trans (h1.block i hi hne)⟩

/-- cells written -/
theorem Rel.write (h : Rel w0 φ S w) (hp : φ.pl[id]? = some p) {cs : List AV} (hx : S[id]? = some (.cells cs)) (off : Nat) {vs : List AV} {cvs : List Value} (hv : Vc w0 φ vs cvs) (hn : off + vs.length ≤ cs.length) :
    Rel w0 φ (S.set id (.cells (cs.take off ++ vs ++ cs.drop (off + vs.length)))) (w.setCells p.b (p.o + off) cvs) ∧
    (∀ j, j < cvs.length → (w.cell? ⟨p.b, p.o + off + j, none⟩).isSome = true) ∧ (∀ j, j < cvs.length → w.frozen? ⟨p.b, p.o + off + j, none⟩ = false) := by
  obtain ⟨h1, h2, ccs, e, fr, h3, h4, h5, h6, h7⟩ := h.obj _ _ _ hp hx
  have hl := hv.1.1
  refine ⟨h.set hp hx trivial (setCells_grown _ _ _ _) ?_, fun j hj => ?_, fun j hj => ?_⟩
  · refine ⟨by simp only [List.length_append, List.length_take, List.length_drop]; omega, h2, _, e, fr, setCells_heap p.b cvs (p.o + off) w ccs e fr h3 (by omega), ?_, ?_, ?_, fun j v hj => ?_⟩
    · simp only [List.size_toArray, List.length_append, List.length_take, List.length_drop, Array.length_toList]; omega
    · refine h5.imp (fun x => x) fun h5 => ?_
      simp only [List.size_toArray, List.length_append, List.length_take, List.length_drop, Array.length_toList]; omega
    · simp only [List.size_toArray, List.length_append, List.length_take, List.length_drop, Array.length_toList]; omega
    · simp only [List.getElem?_toArray, List.append_assoc]
      by_cases a : j < off
      · rw [List.append_assoc, List.getElem?_append_left (by simp; omega), List.getElem?_take, if_pos a] at hj
        obtain ⟨cv, c1, c2, c3⟩ := h7 j v hj
        refine ⟨cv, ?_, c2, c3⟩
        rw [List.getElem?_append_left (by simp; omega), List.getElem?_take, if_pos (by omega)]
        simpa using c1
      · by_cases b : j < off + vs.length
        · rw [List.append_assoc, List.getElem?_append_right (by simp; omega), List.getElem?_append_left (by simp; omega)] at hj
          obtain ⟨cv, c1, c2⟩ := hv.1.get hj
          refine ⟨cv, ?_, c2, hv.2 cv (List.mem_of_getElem? c1)⟩
          rw [List.getElem?_append_right (by simp; omega), List.getElem?_append_left (by simp; omega)]
          rw [← c1]; congr 1; simp; omega
        · rw [List.append_assoc, List.getElem?_append_right (by simp; omega), List.getElem?_append_right (by simp; omega), List.getElem?_drop] at hj
          obtain ⟨cv, c1, c2, c3⟩ := h7 _ v hj
          refine ⟨cv, ?_, c2, c3⟩
          rw [List.getElem?_append_right (by simp; omega), List.getElem?_append_right (by simp; omega), List.getElem?_drop]
          rw [Array.getElem?_toList]
          rw [← c1]; congr 1
          simp only [List.length_take, Array.length_toList]; omega
  · simp only [World.cell?, h3]; simp; omega
  · simp only [World.frozen?, h3]
    rcases h5 with h5 | h5
    · subst h5; simp
    · simp; omega

/-- a row made -/
theorem Rel.alloc (h : Rel w0 φ S w) {cs : List AV} {cvs : List Value} (hv : Vc w0 φ cs cvs) (e : TypeId) (cap : Nat) (spare : List Value) :
    Rel w0 (φ.snoc ⟨w.heap.size, 0, cvs.length + spare.length, cs.length⟩) (S ++ [.cells cs]) (w.alloc (.cells (cvs ++ spare).toArray e)) := by
  have hg : w.grownBy (w.alloc (.cells (cvs ++ spare).toArray e)) none := World.grownBy_alloc w _ _
  refine (h.grown hg).push (fun i q y hq hy ly => ?_) (h.freshZ (Nat.le_refl _)) ?_
  · have := ((h.obj i q y hq hy).lt ly).2; simp; omega
  · refine ⟨rfl, h.below.size, (cvs ++ spare).toArray, e, (0, 0), heap_alloc_new w _, by simp, .inl rfl, by simp; have := hv.1.1; omega, fun j v hj => ?_⟩
    obtain ⟨cv, c1, c2⟩ := hv.1.get hj
    refine ⟨cv, ?_, c2, hv.2 cv (List.mem_of_getElem? c1)⟩
    simp only [Nat.zero_add, List.getElem?_toArray]
    rw [List.getElem?_append_left (List.getElem?_eq_some_iff.1 c1).1]; exact c1

/-- a row made for good -/
theorem Rel.newF (h : Rel w0 φ S w) (hg : w.grownBy w' none) {cs : List AV} {cvs : List Value} (hv : Vc w0 φ cs cvs) (hc : ∀ (j : Nat) (cv : Value), cvs[j]? = some cv → w'.cell? ⟨w.heap.size, j, none⟩ = some cv) :
    ∃ φ', Ext φ φ' ∧ Rel w0 φ' S w' ∧ ∀ n c, n ≤ c → V w0 φ' (.csl cs n) (.slice (some ⟨w.heap.size, 0, none⟩) n c) ∧ V w0 φ' (.csln cs n) (.slice (some ⟨w.heap.size, 0, none⟩) n c) := by
  have h' := h.grown hg
  let φ' : Pc := ⟨φ.pl, fun a => if a.block = w.heap.size then w'.cell? a else φ.fz a⟩
  have hx : Ext φ φ' := ⟨fun _ _ hp => hp, fun a cv ha => by
    have := World.block_lt_of_cell? w a (h.fz a cv ha)
    simp only [φ']; rw [if_neg (by omega)]; exact ha⟩
  refine ⟨φ', hx, ⟨h'.below, h'.len, fun a cv ha => ?_, fun a cv i p x ha hp hx' hl => ?_, h'.inj, fun i p x hp hx' => (h'.obj i p x hp hx').mono hx⟩, fun n c hn => ?_⟩
  · simp only [φ'] at ha
    split at ha
    · exact ha
    · exact h'.fz a cv ha
  · simp only [φ'] at ha
    split at ha
    · have := ((h.obj i p x hp hx').lt hl).2; omega
    · exact h.fzb a cv i p x ha hp hx' hl
  · have hv' := hv.mono hx
    have key : ∀ (j : Nat) (cv : Value), cvs[j]? = some cv → φ'.fz ((⟨w.heap.size, 0, none⟩ : Addr).add j) = some cv := fun j cv hj => by
      have := hc j cv hj
      have e : (⟨w.heap.size, 0, none⟩ : Addr).add j = ⟨w.heap.size, j, none⟩ := by rw [add_none]; simp
      rw [e]; simp only [φ', if_true]; exact this
    exact ⟨.csl hv'.1.1 key hv'.1.2 hv'.2 hn, .csln hv'.1.1 key hv'.1.2 hv'.2 hn h.below.size rfl⟩

/-- a row's mark turns nothing that is told -/
theorem Rel.mark (h : Rel w0 φ S w) {a : Addr} {u : Value} (hz : φ.fz a = some u) (hb : w0.heap.size ≤ a.block) (q : Addr) (hq : q.block = a.block) (n : Nat) : Rel w0 φ S (w.freeze q n) := by
  by_cases hn : n = 0
  · subst hn; exact h
  have hsame : ∀ k, k ≠ a.block → (w.freeze q n).heap[k]? = w.heap[k]? := fun k hk => by
    simp only [World.freeze, if_neg hn, Array.getElem?_modify]
    rw [if_neg (by rw [hq]; exact fun e => hk e.symm)]
  have hcell : ∀ b, (w.freeze q n).cell? b = w.cell? b := fun b => by
    by_cases e : b.block = a.block
    · simp only [World.cell?, World.freeze, if_neg hn, Array.getElem?_modify]
      rw [if_pos (by rw [hq, e])]
      cases w.heap[b.block]? with
      | none => rfl
      | some o => cases o <;> rfl
    · simp only [World.cell?]; rw [hsame _ e]
  refine ⟨⟨?_, ?_, ?_, ?_, fun k hk => ?_⟩, h.len, fun b cv hb' => by rw [hcell]; exact h.fz b cv hb', h.fzb, h.inj, fun i p x hp hx => ?_⟩
  · simp only [World.freeze, if_neg hn]; exact h.below.os
  · simp only [World.freeze, if_neg hn]; exact h.below.tape
  · simp only [World.freeze, if_neg hn]; exact h.below.output
  · simp only [World.freeze, if_neg hn, Array.size_modify]; exact h.below.size
  · rw [hsame k (by omega)]; exact h.below.block k hk
  · by_cases hl : live x
    · exact (h.obj i p x hp hx).heap (hsame _ (h.fzb a u i p x hz hp hx hl))
    · cases x <;> first | trivial | exact absurd trivial hl

end
end Go.Proofs.Ytmijfhepagobdaa.Avm
