/- What a call reads of its arguments; calls that answer with scalars; calls that answer with what stays as it is. -/
import Derived.Test.YtmijfhepagobdaaA22
import Derived.Test.YtmijfhepagobdaaA20
set_option linter.unusedVariables false
set_option linter.unusedSimpArgs false
set_option linter.unusedSectionVars false
namespace Go.Proofs.Ytmijfhepagobdaa.Avm
open Go.RowKit

mutual
/-- a value that leads to no object -/
def rd0 : AV → Option AV
  | .nilS => some (.csl [] 0)
  | .emp => some (.csl [] 0)
  | .nsl => some (.csl [] 0)
  | .csl cs n => (rd0L cs).map (.csl · n)
  | .csln cs n => (rd0L cs).map (.csl · n)
  | .cptr cs => (rd0L cs).map .cptr
  | .agg cs => (rd0L cs).map .agg
  | .tup cs => (rd0L cs).map .tup
  | .fn f cs => (rd0L cs).map (.fn f)
  | .int k n => some (.int k n)
  | .bool b => some (.bool b)
  | .str s => some (.str s)
  | .nilP => some .nilP
  | .nilM => some .nilM
  | .nilC => some .nilC
  | .nilF => some .nilF
  | .nilI => some .nilI
  | _ => none
def rd0L : List AV → Option (List AV)
  | [] => some []
  | v :: l => (rd0 v).bind fun u => (rd0L l).map (u :: ·)
end
mutual
/-- a value, read in a store: its own rows too -/
def rdS (S : Store) : AV → Option AV
  | .sl id off n sz => match S[id]? with
    | some (.cells cs) => if off + n * sz ≤ cs.length then (rd0L ((cs.drop off).take (n * sz))).map (.csl · n) else none
    | _ => none
  | .slc id off n _ sz => match S[id]? with
    | some (.cells cs) => if off + n * sz ≤ cs.length then (rd0L ((cs.drop off).take (n * sz))).map (.csl · n) else none
    | _ => none
  | .agg cs => (rdSL S cs).map .agg
  | .tup cs => (rdSL S cs).map .tup
  | v => rd0 v
def rdSL (S : Store) : List AV → Option (List AV)
  | [] => some []
  | v :: l => (rdS S v).bind fun u => (rdSL S l).map (u :: ·)
end
mutual
/-- the objects that a value's rows lie in -/
def topIds : AV → List Nat
  | .sl id _ _ _ => [id]
  | .slc id _ _ _ _ => [id]
  | .agg cs => topIdsL cs
  | .tup cs => topIdsL cs
  | _ => []
def topIdsL : List AV → List Nat
  | [] => []
  | v :: l => topIds v ++ topIdsL l
end

section
variable {w0 w1 w : World} {φ φ' : Pc} {S : Store}

mutual
theorem rd0_V (hz : ∀ a cv, φ.fz a = some cv → φ'.fz a = some cv) : ∀ {v u : AV} {cv : Value}, rd0 v = some u → V w0 φ v cv → V w1 φ' u cv
  | .nilS, u, cv, h, k => by simp only [rd0, Option.some.injEq] at h; subst h; cases k; exact .csl0
  | .emp, u, cv, h, k => by
    simp only [rd0, Option.some.injEq] at h; subst h
    obtain ⟨b, rfl⟩ := k.emp_inv
    cases b with
    | none => exact .csl0
    | some a => exact .csl (cvs := []) rfl (fun j cv h => by simp at h) (fun j v cv h => by simp at h) (fun cv h => by simp at h) (Nat.le_refl _)
  | .nsl, u, cv, h, k => by
    simp only [rd0, Option.some.injEq] at h; subst h
    obtain ⟨a, c, rfl⟩ := k.nsl_inv
    exact .csl (cvs := []) rfl (fun j cv h => by simp at h) (fun j v cv h => by simp at h) (fun cv h => by simp at h) (Nat.zero_le _)
  | .csl cs n, u, cv, h, k => by
    simp only [rd0, Option.map_eq_some_iff] at h
    obtain ⟨ds, h, rfl⟩ := h
    obtain ⟨a, c, cvs, rfl, h1, hn, hc⟩ | ⟨rfl, rfl, rfl⟩ := k.csl_inv
    · obtain ⟨q1, q2⟩ := rd0L_V hz h h1.1
      exact .csl q1 (fun j cv hj => hz _ _ (hc j cv hj)) q2 h1.2 hn
    · simp only [rd0L, Option.some.injEq] at h; subst h; exact .csl0
  | .csln cs n, u, cv, h, k => by
    simp only [rd0, Option.map_eq_some_iff] at h
    obtain ⟨ds, h, rfl⟩ := h
    cases k with | csln hl hc h1 ho hn _ _ =>
    obtain ⟨q1, q2⟩ := rd0L_V hz h ⟨hl, h1⟩
    exact .csl q1 (fun j cv hj => hz _ _ (hc j cv hj)) q2 ho hn
  | .cptr cs, u, cv, h, k => by
    simp only [rd0, Option.map_eq_some_iff] at h
    obtain ⟨ds, h, rfl⟩ := h
    cases k with | cptr hl hc h1 ho =>
    obtain ⟨q1, q2⟩ := rd0L_V hz h ⟨hl, h1⟩
    exact .cptr q1 (fun j cv hj => hz _ _ (hc j cv hj)) q2 ho
  | .agg cs, u, cv, h, k => by
    simp only [rd0, Option.map_eq_some_iff] at h
    obtain ⟨ds, h, rfl⟩ := h
    cases k with | agg hl h1 ho =>
    obtain ⟨q1, q2⟩ := rd0L_V hz h ⟨hl, h1⟩
    exact .agg q1 q2 ho
  | .tup cs, u, cv, h, k => by
    simp only [rd0, Option.map_eq_some_iff] at h
    obtain ⟨ds, h, rfl⟩ := h
    cases k with | tup hl h1 =>
    obtain ⟨q1, q2⟩ := rd0L_V hz h ⟨hl, h1⟩
    exact .tup q1 q2
  | .fn f cs, u, cv, h, k => by
    simp only [rd0, Option.map_eq_some_iff] at h
    obtain ⟨ds, h, rfl⟩ := h
    cases k with | fn hl h1 =>
    obtain ⟨q1, q2⟩ := rd0L_V hz h ⟨hl, h1⟩
    exact .fn q1 q2
  | .int _ _, u, cv, h, k => by simp only [rd0, Option.some.injEq] at h; subst h; cases k; exact .int _ _
  | .bool _, u, cv, h, k => by simp only [rd0, Option.some.injEq] at h; subst h; cases k; exact .bool _
  | .str _, u, cv, h, k => by simp only [rd0, Option.some.injEq] at h; subst h; cases k; exact .str _
  | .nilP, u, cv, h, k => by simp only [rd0, Option.some.injEq] at h; subst h; cases k; exact .nilP
  | .nilM, u, cv, h, k => by simp only [rd0, Option.some.injEq] at h; subst h; cases k; exact .nilM
  | .nilC, u, cv, h, k => by simp only [rd0, Option.some.injEq] at h; subst h; cases k; exact .nilC
  | .nilF, u, cv, h, k => by simp only [rd0, Option.some.injEq] at h; subst h; cases k; exact .nilF
  | .nilI, u, cv, h, k => by simp only [rd0, Option.some.injEq] at h; subst h; cases k; exact .nilI
  | .ptr _ _, u, cv, h, k => by simp [rd0] at h
  | .sl _ _ _ _, u, cv, h, k => by simp [rd0] at h
  | .slc _ _ _ _ _, u, cv, h, k => by simp [rd0] at h
  | .map _, u, cv, h, k => by simp [rd0] at h
  | .chan _, u, cv, h, k => by simp [rd0] at h
  | .junk, u, cv, h, k => by simp [rd0] at h
theorem rd0L_V (hz : ∀ a cv, φ.fz a = some cv → φ'.fz a = some cv) : ∀ {cs ds : List AV} {cvs : List Value}, rd0L cs = some ds → Vs w0 φ cs cvs → Vs w1 φ' ds cvs
  | [], ds, cvs, h, k => by
    simp only [rd0L, Option.some.injEq] at h; subst h
    have : cvs = [] := List.eq_nil_of_length_eq_zero k.1.symm
    subst this; exact .nil
  | v :: l, ds, cvs, h, k => by
    simp only [rd0L, Option.bind_eq_some_iff, Option.map_eq_some_iff] at h
    obtain ⟨u, h1, us, h2, rfl⟩ := h
    obtain ⟨cv, cvs', rfl, k1, k2⟩ := k.cons_inv
    exact .cons (rd0_V hz h1 k1) (rd0L_V hz h2 k2)
end

mutual
theorem rdS_V (hr : Rel w0 φ S w) (hz : ∀ a cv, φ.fz a = some cv → φ'.fz a = some cv) : ∀ {v u : AV} {cv : Value},
    (∀ i, i ∈ topIds v → ∀ (p : Pl) (x : AObj) (a : Addr) (cv : Value), φ.pl[i]? = some p → S[i]? = some x → live x → a.block = p.b → w.cell? a = some cv → φ'.fz a = some cv) →
    rdS S v = some u → V w0 φ v cv → V w1 φ' u cv
  | .sl id off n sz, u, cv, hD, h, k => by
    simp only [rdS] at h
    split at h
    · rename_i cs hS
      split at h
      · rename_i hb
        obtain ⟨ds, h', rfl⟩ := Option.map_eq_some_iff.1 h
        obtain ⟨a, c, p, rfl, hp, ha, _, _, hn, hs, _⟩ := k.sl_inv
        obtain ⟨cvs, h1, h2, h3⟩ := hr.cells hp hS off (n * sz) hb
        obtain ⟨q1, q2⟩ := rd0L_V (w1 := w1) hz h' h1.1
        refine .csl q1 (fun j cv hj => ?_) q2 h1.2 hn
        have hj' : j < cvs.length := (List.getElem?_eq_some_iff.1 hj).1
        have : 0 < n := Nat.pos_of_ne_zero fun h0 => by rw [h0, Nat.zero_mul] at h2; omega
        rw [ha (by omega), add_none]
        exact hD id (by simp [topIds]) p _ _ cv hp hS trivial rfl (h3 j cv hj)
      · cases h
    · cases h
  | .slc id off n c sz, u, cv, hD, h, k => by
    simp only [rdS] at h
    split at h
    · rename_i cs hS
      split at h
      · rename_i hb
        obtain ⟨ds, h', rfl⟩ := Option.map_eq_some_iff.1 h
        obtain ⟨a, p, rfl, hp, ha, _, hn, hs⟩ := k.slc_inv
        obtain ⟨cvs, h1, h2, h3⟩ := hr.cells hp hS off (n * sz) hb
        obtain ⟨q1, q2⟩ := rd0L_V (w1 := w1) hz h' h1.1
        refine .csl q1 (fun j cv hj => ?_) q2 h1.2 hn
        have hj' : j < cvs.length := (List.getElem?_eq_some_iff.1 hj).1
        have : 0 < n := Nat.pos_of_ne_zero fun h0 => by rw [h0, Nat.zero_mul] at h2; omega
        rw [ha (by omega), add_none]
        exact hD id (by simp [topIds]) p _ _ cv hp hS trivial rfl (h3 j cv hj)
      · cases h
    · cases h
  | .agg cs, u, cv, hD, h, k => by
    simp only [rdS, Option.map_eq_some_iff] at h
    obtain ⟨ds, h, rfl⟩ := h
    cases k with | agg hl h1 ho =>
    obtain ⟨q1, q2⟩ := rdSL_V hr hz (fun i hi => hD i (by simpa [topIds] using hi)) h ⟨hl, h1⟩
    exact .agg q1 q2 ho
  | .tup cs, u, cv, hD, h, k => by
    simp only [rdS, Option.map_eq_some_iff] at h
    obtain ⟨ds, h, rfl⟩ := h
    cases k with | tup hl h1 =>
    obtain ⟨q1, q2⟩ := rdSL_V hr hz (fun i hi => hD i (by simpa [topIds] using hi)) h ⟨hl, h1⟩
    exact .tup q1 q2
  | .nilS, u, cv, hD, h, k | .emp, u, cv, hD, h, k | .nsl, u, cv, hD, h, k | .csl _ _, u, cv, hD, h, k | .csln _ _, u, cv, hD, h, k | .cptr _, u, cv, hD, h, k | .fn _ _, u, cv, hD, h, k | .int _ _, u, cv, hD, h, k | .bool _, u, cv, hD, h, k
  | .str _, u, cv, hD, h, k | .nilP, u, cv, hD, h, k | .nilM, u, cv, hD, h, k | .nilC, u, cv, hD, h, k | .nilF, u, cv, hD, h, k | .nilI, u, cv, hD, h, k | .ptr _ _, u, cv, hD, h, k | .map _, u, cv, hD, h, k | .chan _, u, cv, hD, h, k | .junk, u, cv, hD, h, k => rd0_V hz (by simpa only [rdS] using h) k
theorem rdSL_V (hr : Rel w0 φ S w) (hz : ∀ a cv, φ.fz a = some cv → φ'.fz a = some cv) : ∀ {cs ds : List AV} {cvs : List Value},
    (∀ i, i ∈ topIdsL cs → ∀ (p : Pl) (x : AObj) (a : Addr) (cv : Value), φ.pl[i]? = some p → S[i]? = some x → live x → a.block = p.b → w.cell? a = some cv → φ'.fz a = some cv) →
    rdSL S cs = some ds → Vs w0 φ cs cvs → Vs w1 φ' ds cvs
  | [], ds, cvs, hD, h, k => by
    simp only [rdSL, Option.some.injEq] at h; subst h
    have : cvs = [] := List.eq_nil_of_length_eq_zero k.1.symm
    subst this; exact .nil
  | v :: l, ds, cvs, hD, h, k => by
    simp only [rdSL, Option.bind_eq_some_iff, Option.map_eq_some_iff] at h
    obtain ⟨u, h1, us, h2, rfl⟩ := h
    obtain ⟨cv, cvs', rfl, k1, k2⟩ := k.cons_inv
    exact .cons (rdS_V hr hz (fun i hi => hD i (by simp [topIdsL, hi])) h1 k1) (rdSL_V hr hz (fun i hi => hD i (by simp [topIdsL, hi])) h2 k2)
end
end

/-- objects given up -/
def killL (ids : List Nat) (S : Store) : Store := ids.foldl (fun S i => S.set i .dead) S
theorem killL_nil (S : Store) : killL [] S = S := rfl
theorem killL_cons (i : Nat) (ids : List Nat) (S : Store) : killL (i :: ids) S = killL ids (S.set i .dead) := rfl
theorem killL_len : ∀ (ids : List Nat) (S : Store), (killL ids S).length = S.length
  | [], _ => rfl
  | i :: ids, S => by rw [killL_cons, killL_len]; simp
theorem killL_get : ∀ (ids : List Nat) (S : Store) (i : Nat) (x : AObj), (killL ids S)[i]? = some x → live x → S[i]? = some x ∧ ¬ i ∈ ids
  | [], _, _, _, h, _ => ⟨h, by simp⟩
  | j :: ids, S, i, x, h, hl => by
    rw [killL_cons] at h
    obtain ⟨h1, h2⟩ := killL_get ids _ i x h hl
    by_cases e : j = i
    · subst e; rw [List.getElem?_set] at h1; simp at h1; obtain ⟨_, rfl⟩ := h1; exact hl.elim
    · rw [List.getElem?_set_ne e] at h1; exact ⟨h1, by simp only [List.mem_cons, not_or]; exact ⟨fun q => e q.symm, h2⟩⟩

open Classical in
/-- objects made good -/
theorem Rel.give {w0 w : World} {φ : Pc} {S : Store} (hr : Rel w0 φ S w) (ids : List Nat) :
    ∃ φ', Ext φ φ' ∧ Rel w0 φ' (killL ids S) w ∧ ∀ i, i ∈ ids → ∀ (p : Pl) (x : AObj) (a : Addr) (cv : Value), φ.pl[i]? = some p → S[i]? = some x → live x → a.block = p.b → w.cell? a = some cv → φ'.fz a = some cv := by
  let φ' : Pc := ⟨φ.pl, fun a => if ∃ (i : Nat) (p : Pl) (x : AObj), i ∈ ids ∧ φ.pl[i]? = some p ∧ S[i]? = some x ∧ live x ∧ a.block = p.b then w.cell? a else φ.fz a⟩
  have hx : Ext φ φ' := ⟨fun _ _ h => h, fun a cv h => by
    simp only [φ']; split
    · exact hr.fz a cv h
    · exact h⟩
  refine ⟨φ', hx, ⟨hr.below, by rw [killL_len]; exact hr.len, fun a cv h => ?_, fun a cv i p x h hp hS hl => ?_, fun i j p q x y hp hq hS hT lx ly hb => ?_, fun i p x hp hS => ?_⟩, fun i hi p x a cv hp hS hl hb hc => ?_⟩
  · simp only [φ'] at h
    split at h
    · exact h
    · exact hr.fz a cv h
  · obtain ⟨h1, h2⟩ := killL_get ids S i x hS hl
    simp only [φ'] at h
    split at h
    · rename_i hex
      obtain ⟨j, q, y, k1, k2, k3, k4, k5⟩ := hex
      intro hb
      have := hr.inj j i q p y x k2 hp k3 h1 k4 hl (by rw [← k5]; exact hb.symm)
      subst this; exact h2 k1
    · exact hr.fzb a cv i p x h hp h1 hl
  · exact hr.inj i j p q x y hp hq (killL_get ids S i x hS lx).1 (killL_get ids S j y hT ly).1 lx ly hb
  · by_cases hl : live x
    · exact (hr.obj i p x hp (killL_get ids S i x hS hl).1).mono hx
    · cases x <;> first | trivial | exact absurd trivial hl
  · simp only [φ']; rw [if_pos ⟨i, p, x, hi, hp, hS, hl, hb⟩]; exact hc

/-! ### calls that answer with scalars -/
def Scal (v : AV) : Prop := ∀ (w0 w1 : World) (φ φ' : Pc) (cv : Value), V w0 φ v cv → V w1 φ' v cv

noncomputable section
open Classical
variable {α : Type}
/-- what a call answers, by what its arguments read as; nothing turns -/
def primS (enc : α → List AV) (res : α → Option AV) (args : List AV) (S : Store) : Option (AV × Store) :=
  if h : ∃ a, rdSL S args = some (enc a) then (res h.choose).map fun v => (v, S) else none
/-- likewise; the arguments' rows are given up -/
def primG (enc : α → List AV) (res : α → Option AV) (args : List AV) (S : Store) : Option (AV × Store) :=
  if h : ∃ a, rdSL S args = some (enc a) then (res h.choose).map fun v => (v, killL (topIdsL args) S) else none
end

def Inj {α : Type} (enc : α → List AV) : Prop := ∀ a b, enc a = enc b → a = b
section
variable {α : Type} {enc : α → List AV} {res : α → Option AV} {args : List AV} {S S' : Store} {a : α} {v : AV}
theorem primS_eq (hi : Inj enc) (h : rdSL S args = some (enc a)) (hr : res a = some v) : primS enc res args S = some (v, S) := by
  have he : ∃ a, rdSL S args = some (enc a) := ⟨a, h⟩
  have : he.choose = a := hi _ _ (Option.some.inj (he.choose_spec.symm.trans h))
  unfold primS; rw [dif_pos he, this, hr]; rfl
theorem primG_eq (hi : Inj enc) (h : rdSL S args = some (enc a)) (hr : res a = some v) : primG enc res args S = some (v, killL (topIdsL args) S) := by
  have he : ∃ a, rdSL S args = some (enc a) := ⟨a, h⟩
  have : he.choose = a := hi _ _ (Option.some.inj (he.choose_spec.symm.trans h))
  unfold primG; rw [dif_pos he, this, hr]; rfl
theorem primS_inv (h : primS enc res args S = some (v, S')) : ∃ a, rdSL S args = some (enc a) ∧ res a = some v ∧ S' = S := by
  unfold primS at h
  split at h
  · rename_i he
    obtain ⟨u, h1, h2⟩ := Option.map_eq_some_iff.1 h
    cases h2; exact ⟨_, he.choose_spec, h1, rfl⟩
  · cases h
theorem primG_inv (h : primG enc res args S = some (v, S')) : ∃ a, rdSL S args = some (enc a) ∧ res a = some v ∧ S' = killL (topIdsL args) S := by
  unfold primG at h
  split at h
  · rename_i he
    obtain ⟨u, h1, h2⟩ := Option.map_eq_some_iff.1 h
    cases h2; exact ⟨_, he.choose_spec, h1, rfl⟩
  · cases h
end

/-- a function answers just so, with scalars -/
def OkS {α : Type} (E : Env) (f : Nat) (enc : α → List AV) (res : α → Option AV) : Prop := ∀ a v, res a = some v → ∃ S1, Is E f (enc a) [] v S1
/-- a function answers just so, with what stays as it is -/
def OkG {α : Type} (E : Env) (f : Nat) (enc : α → List AV) (res : α → Option AV) : Prop := ∀ a v S, res a = some v → ∃ v1 S1, Is E f (enc a) S v1 S1 ∧ Conv S S1 v1 S v

def AllOK (P : Program) (E : Env) : Prop := ∀ w0, EnvOK P w0 E

theorem Rel.later {w0 w w' : World} {φ : Pc} {S : Store} (h : Rel w0 φ S w) (hb : Below w.heap.size w w') : Rel w0 φ S w' :=
  ⟨⟨hb.os.trans h.below.os, hb.tape.trans h.below.tape, hb.output.trans h.below.output, Nat.le_trans h.below.size hb.size, fun k hk => (hb.block k (Nat.lt_of_lt_of_le hk h.below.size)).trans (h.below.block k hk)⟩, h.len,
    fun a cv ha => by
      have hc := h.fz a cv ha
      have := World.block_lt_of_cell? w a hc
      simp only [World.cell?] at hc ⊢; rw [hb.block _ this]; exact hc,
    h.fzb, h.inj, fun i p x hp hx => by
      by_cases hl : live x
      · exact (h.obj i p x hp hx).heap (hb.block _ ((h.obj i p x hp hx).lt hl).2)
      · cases x <;> first | trivial | exact absurd trivial hl⟩

theorem AllOK.addS {P : Program} {E : Env} (hmix : P.follows .mixedOrders = true) (hE : AllOK P E) {α : Type} {enc : α → List AV} {res : α → Option AV} (hs : ∀ a v, res a = some v → Scal v) {f : Nat} (h : OkS E f enc res) : AllOK P (E.add f (primS enc res)) := fun w0 =>
  { fn := (hE w0).fn
    prim := fun g q hq cf hcf args S v S' hp φ w vs hr hv => by
      simp only [Env.add] at hq
      split at hq
      · rename_i hg; subst hg; cases hq
        obtain ⟨a, h1, h2, rfl⟩ := primS_inv hp
        obtain ⟨S1, N, hN⟩ := h a v h2
        have hr0 : Rel w ⟨[], w.cell?⟩ [] w := ⟨Below.refl _ _, rfl, fun _ _ h => h, fun a cv i p x _ hp => by simp at hp, fun i j p q x y hp => by simp at hp, fun i p x hp => by simp at hp⟩
        have hv0 : Vs w ⟨[], w.cell?⟩ (enc a) vs := rdSL_V hr (fun a cv h => hr.fz a cv h) (fun i _ p x a cv _ _ _ _ hc => hc) h1 hv
        rcases run_ok hmix (hE w) N g (enc a) [] v S1 (hN N (Nat.le_refl _)) _ w vs hr0 hv0 with k | ⟨f, as, w1, k1, k2⟩
        · obtain ⟨φ', cv, w', k1, k2, k3, k4⟩ := k
          exact .inl ⟨φ, cv, w', k1, .refl _, hr.later k3.below, hs a v h2 _ _ _ _ _ k4⟩
        · refine .inr ⟨f, as, w1, k1, k2.mono fun e w' hb => ?_⟩
          obtain ⟨φ', cv, e1, e2, e3, e4⟩ := hb
          exact ⟨φ, cv, e1, .refl _, hr.later e3.below, hs a v h2 _ _ _ _ _ e4⟩
      · exact (hE w0).prim g q hq cf hcf args S v S' hp φ w vs hr hv }

theorem AllOK.addG {P : Program} {E : Env} (hmix : P.follows .mixedOrders = true) (hE : AllOK P E) {α : Type} {enc : α → List AV} {res : α → Option AV} {f : Nat} (h : OkG E f enc res) : AllOK P (E.add f (primG enc res)) := fun w0 =>
  { fn := (hE w0).fn
    prim := fun g q hq cf hcf args S v S' hp φ w vs hr hv => by
      simp only [Env.add] at hq
      split at hq
      · rename_i hg; subst hg; cases hq
        obtain ⟨a, h1, h2, rfl⟩ := primG_inv hp
        obtain ⟨φ1, g1, g2, g3⟩ := hr.give (topIdsL args)
        obtain ⟨v1, S1, ⟨N, hN⟩, hc⟩ := h a v (killL (topIdsL args) S) h2
        have hv0 : Vs w0 φ1 (enc a) vs := rdSL_V hr g1.fz g3 h1 hv
        rcases run_ok hmix (hE w0) N g (enc a) _ v1 S1 (hN N (Nat.le_refl _)) _ w vs g2 hv0 with k | ⟨f, as, w1, k1, k2⟩
        · obtain ⟨φ', cv, w', k1, k2, k3, k4⟩ := k
          obtain ⟨φ2, m1, m2, m3⟩ := hc.rel g2 k2 k3 k4
          exact .inl ⟨φ2, cv, w', k1, g1.trans m1, m2, m3⟩
        · refine .inr ⟨f, as, w1, k1, k2.mono fun e w' hb => ?_⟩
          obtain ⟨φ', cv, e1, e2, e3, e4⟩ := hb
          obtain ⟨φ2, m1, m2, m3⟩ := hc.rel g2 e2 e3 e4
          exact ⟨φ2, cv, e1, g1.trans m1, m2, m3⟩
      · exact (hE w0).prim g q hq cf hcf args S v S' hp φ w vs hr hv }

theorem AllOK.add {P : Program} {E : Env} (hmix : P.follows .mixedOrders = true) (hE : AllOK P E) {f : Nat} {p : List AV → Store → Option (AV × Store)} (hp : PrimOK E f p) : AllOK P (E.add f p) := fun w0 => (hE w0).add hmix hp

end Go.Proofs.Ytmijfhepagobdaa.Avm
