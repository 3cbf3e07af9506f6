/- What a call made is told anew: kept objects under new names, the others for good. -/
import Derived.Test.YtmijfhepagobdaaA19
set_option linter.unusedVariables false
set_option linter.unusedSimpArgs false
set_option linter.unusedSectionVars false
namespace Go.Proofs.Ytmijfhepagobdaa.Avm
open Go.RowKit

/-- a value, told anew: ρ says which objects keep a name, and which -/
inductive Cv (S : Store) (ρ : Nat → Option Nat) : AV → AV → Prop
  | int (k : IntKind) (n : Int) : Cv S ρ (.int k n) (.int k n)
  | bool (b : Bool) : Cv S ρ (.bool b) (.bool b)
  | str (s : List UInt8) : Cv S ρ (.str s) (.str s)
  | nilP : Cv S ρ .nilP .nilP
  | ptr {id id' off : Nat} (h : ρ id = some id') : Cv S ρ (.ptr id off) (.ptr id' off)
  | fptr {id off : Nat} {cs ds : List AV} (hρ : ρ id = none) (hS : S[id]? = some (.cells cs)) (ho : off ≤ cs.length) (hl : (cs.drop off).length = ds.length)
      (h : ∀ (j : Nat) (v u : AV), (cs.drop off)[j]? = some v → ds[j]? = some u → Cv S ρ v u) : Cv S ρ (.ptr id off) (.cptr ds)
  | cptr {cs ds : List AV} (hl : cs.length = ds.length) (h : ∀ (j : Nat) (v u : AV), cs[j]? = some v → ds[j]? = some u → Cv S ρ v u) : Cv S ρ (.cptr cs) (.cptr ds)
  | nilS : Cv S ρ .nilS .nilS
  | nilS0 : Cv S ρ .nilS (.csl [] 0)
  | emp : Cv S ρ .emp .emp
  | emp0 : Cv S ρ .emp (.csl [] 0)
  | nsl : Cv S ρ .nsl .nsl
  | nsl0 : Cv S ρ .nsl (.csl [] 0)
  | sl {id id' off n sz : Nat} (h : ρ id = some id') : Cv S ρ (.sl id off n sz) (.sl id' off n sz)
  | fsl {id off n sz : Nat} {cs ds : List AV} (hρ : ρ id = none) (hS : S[id]? = some (.cells cs)) (ho : off + n * sz ≤ cs.length) (hl : ((cs.drop off).take (n * sz)).length = ds.length)
      (h : ∀ (j : Nat) (v u : AV), ((cs.drop off).take (n * sz))[j]? = some v → ds[j]? = some u → Cv S ρ v u) : Cv S ρ (.sl id off n sz) (.csl ds n)
  | slc {id id' off n c sz : Nat} (h : ρ id = some id') : Cv S ρ (.slc id off n c sz) (.slc id' off n c sz)
  | fslc {id off n c sz : Nat} {cs ds : List AV} (hρ : ρ id = none) (hS : S[id]? = some (.cells cs)) (ho : off + n * sz ≤ cs.length) (hl : ((cs.drop off).take (n * sz)).length = ds.length)
      (h : ∀ (j : Nat) (v u : AV), ((cs.drop off).take (n * sz))[j]? = some v → ds[j]? = some u → Cv S ρ v u) : Cv S ρ (.slc id off n c sz) (.csl ds n)
  | csl {cs ds : List AV} {n : Nat} (hl : cs.length = ds.length) (h : ∀ (j : Nat) (v u : AV), cs[j]? = some v → ds[j]? = some u → Cv S ρ v u) : Cv S ρ (.csl cs n) (.csl ds n)
  | csln {cs ds : List AV} {n : Nat} (hl : cs.length = ds.length) (h : ∀ (j : Nat) (v u : AV), cs[j]? = some v → ds[j]? = some u → Cv S ρ v u) : Cv S ρ (.csln cs n) (.csln ds n)
  | cslnF {cs ds : List AV} {n : Nat} (hl : cs.length = ds.length) (h : ∀ (j : Nat) (v u : AV), cs[j]? = some v → ds[j]? = some u → Cv S ρ v u) : Cv S ρ (.csln cs n) (.csl ds n)
  | nilM : Cv S ρ .nilM .nilM
  | map {id id' : Nat} (h : ρ id = some id') : Cv S ρ (.map id) (.map id')
  | nilC : Cv S ρ .nilC .nilC
  | chan {id id' : Nat} (h : ρ id = some id') : Cv S ρ (.chan id) (.chan id')
  | fn {f : Nat} {cs ds : List AV} (hl : cs.length = ds.length) (h : ∀ (j : Nat) (v u : AV), cs[j]? = some v → ds[j]? = some u → Cv S ρ v u) : Cv S ρ (.fn f cs) (.fn f ds)
  | nilF : Cv S ρ .nilF .nilF
  | nilI : Cv S ρ .nilI .nilI
  | agg {cs ds : List AV} (hl : cs.length = ds.length) (h : ∀ (j : Nat) (v u : AV), cs[j]? = some v → ds[j]? = some u → Cv S ρ v u) : Cv S ρ (.agg cs) (.agg ds)
  | tup {cs ds : List AV} (hl : cs.length = ds.length) (h : ∀ (j : Nat) (v u : AV), cs[j]? = some v → ds[j]? = some u → Cv S ρ v u) : Cv S ρ (.tup cs) (.tup ds)
  | junk : Cv S ρ .junk .junk

inductive ObjCv (S : Store) (ρ : Nat → Option Nat) : AObj → AObj → Prop
  | cells {cs ds : List AV} (hl : cs.length = ds.length) (h : ∀ (j : Nat) (v u : AV), cs[j]? = some v → ds[j]? = some u → Cv S ρ v u) : ObjCv S ρ (.cells cs) (.cells ds)
  | map {es fs : List (AV × AV)} (hl : es.length = fs.length) (h : ∀ (j : Nat) (k v k' v' : AV), es[j]? = some (k, v) → fs[j]? = some (k', v') → Cv S ρ k k' ∧ Cv S ρ v v') : ObjCv S ρ (.map es) (.map fs)
  | chan {c : Nat} {cs ds : List AV} (hl : cs.length = ds.length) (h : ∀ (j : Nat) (v u : AV), cs[j]? = some v → ds[j]? = some u → Cv S ρ v u) : ObjCv S ρ (.chan c cs) (.chan c ds)
  | dead (x : AObj) : ObjCv S ρ x .dead

theorem ObjCv.live {S : Store} {ρ : Nat → Option Nat} {x y : AObj} (h : ObjCv S ρ x y) (hl : Avm.live y) : Avm.live x := by
  cases h <;> first | trivial | exact hl.elim

/-- values of a smaller list of places stay as they are -/
theorem V.cvRefl {w0 : World} {φ : Pc} {v : AV} {cv : Value} (h : V w0 φ v cv) {S : Store} {ρ : Nat → Option Nat} (hρ : ∀ i, i < φ.pl.length → ρ i = some i) : Cv S ρ v v := by
  have lt : ∀ {id : Nat} {p : Pl}, φ.pl[id]? = some p → ρ id = some id := fun hp => hρ _ (List.getElem?_eq_some_iff.1 hp).1
  have two : ∀ {cs : List AV} {cvs : List Value}, cs.length = cvs.length → (∀ (j : Nat) (v : AV) (cv : Value), cs[j]? = some v → cvs[j]? = some cv → Cv S ρ v v) → ∀ (j : Nat) (v u : AV), cs[j]? = some v → cs[j]? = some u → Cv S ρ v u := fun {cs cvs} hl ih j v u a b => by
    rw [a] at b; cases b
    have : j < cvs.length := by have := (List.getElem?_eq_some_iff.1 a).1; omega
    exact ih j v _ a (List.getElem?_eq_getElem this)
  induction h with
  | int k n => exact .int k n
  | bool b => exact .bool b
  | str s => exact .str _
  | nilP => exact .nilP
  | ptr hp => exact .ptr (lt hp)
  | cptr hl hc _ ho ih => exact .cptr rfl (two hl ih)
  | nilS => exact .nilS
  | sl hp => exact .sl (lt hp)
  | slc hp => exact .slc (lt hp)
  | csl hl hc _ ho hn ih => exact .csl rfl (two hl ih)
  | csln hl hc _ ho hn hb ha ih => exact .csln rfl (two hl ih)
  | csl0 => exact .csl rfl fun j v u h => by simp at h
  | emp => exact .emp
  | nsl => exact .nsl
  | nilM => exact .nilM
  | map hp => exact .map (lt hp)
  | nilC => exact .nilC
  | chan hp => exact .chan (lt hp)
  | fn hl _ ih => exact .fn rfl (two hl ih)
  | nilF => exact .nilF
  | nilI => exact .nilI
  | agg hl _ ho ih => exact .agg rfl (two hl ih)
  | tup hl _ ih => exact .tup rfl (two hl ih)
  | junk ho => exact .junk

section
variable {w0 w : World} {φ φ' : Pc} {S : Store} {ρ : Nat → Option Nat}

theorem Cv.V (hr : Rel w0 φ S w) (hpl : ∀ (i i' : Nat) (p : Pl), ρ i = some i' → φ.pl[i]? = some p → φ'.pl[i']? = some p) (hfz : ∀ (a : Addr) (cv : Value), φ.fz a = some cv → φ'.fz a = some cv)
    (hnew : ∀ (i : Nat) (p : Pl) (x : AObj) (a : Addr) (cv : Value), ρ i = none → φ.pl[i]? = some p → S[i]? = some x → live x → a.block = p.b → w.cell? a = some cv → φ'.fz a = some cv)
    {v u : AV} (h : Cv S ρ v u) : ∀ {cv : Value}, V w0 φ v cv → V w0 φ' u cv := by
  have two : ∀ {cs ds : List AV} {cvs : List Value}, cs.length = ds.length → cs.length = cvs.length → (∀ (j : Nat) (v u : AV), cs[j]? = some v → ds[j]? = some u → ∀ {cv : Value}, Avm.V w0 φ v cv → Avm.V w0 φ' u cv) →
      (∀ (j : Nat) (v : AV) (cv : Value), cs[j]? = some v → cvs[j]? = some cv → Avm.V w0 φ v cv) → ∀ (j : Nat) (u : AV) (cv : Value), ds[j]? = some u → cvs[j]? = some cv → Avm.V w0 φ' u cv := fun {cs ds cvs} h1 h2 ih hV j u cv a b => by
    have : j < cs.length := by have := (List.getElem?_eq_some_iff.1 b).1; omega
    exact ih j _ u (List.getElem?_eq_getElem this) a (hV j _ cv (List.getElem?_eq_getElem this) b)
  have froz : ∀ {id off n : Nat} {p : Pl} {cs ds : List AV}, ρ id = none → S[id]? = some (.cells cs) → φ.pl[id]? = some p → off + n ≤ cs.length → ((cs.drop off).take n).length = ds.length →
      (∀ (j : Nat) (v u : AV), ((cs.drop off).take n)[j]? = some v → ds[j]? = some u → ∀ {cv : Value}, Avm.V w0 φ v cv → Avm.V w0 φ' u cv) →
      ∃ cvs : List Value, ds.length = cvs.length ∧ cvs.length = n ∧ (∀ (j : Nat) (cv : Value), cvs[j]? = some cv → φ'.fz ⟨p.b, p.o + off + j, none⟩ = some cv) ∧
        (∀ (j : Nat) (u : AV) (cv : Value), ds[j]? = some u → cvs[j]? = some cv → Avm.V w0 φ' u cv) ∧ ∀ cv, cv ∈ cvs → cv.oneCell' = true := fun {id off n p cs ds} hρ hS hp hn hl ih => by
    obtain ⟨cvs, h1, h2, h3⟩ := hr.cells hp hS off n hn
    exact ⟨cvs, by rw [← hl]; exact h1.1.1, h2, fun j cv hj => hnew id p _ _ cv hρ hp hS trivial rfl (h3 j cv hj), two hl h1.1.1 ih h1.1.2, h1.2⟩
  induction h with
  | int k n => intro cv k; cases k; exact .int _ _
  | bool b => intro cv k; cases k; exact .bool _
  | str s => intro cv k; cases k; exact .str _
  | nilP => intro cv k; cases k; exact .nilP
  | ptr h => intro cv k; cases k with | ptr hp => exact .ptr (hpl _ _ _ h hp)
  | @fptr id off cs ds hρ hS ho hl h ih =>
    intro cv k
    obtain ⟨p, hp, rfl⟩ := k.ptr_inv
    have ht : (cs.drop off).take (cs.length - off) = cs.drop off := List.take_of_length_le (by simp)
    obtain ⟨cvs, h1, h2, h3, h4, h5⟩ := froz (off := off) (n := cs.length - off) (cs := cs) (ds := ds) hρ hS hp (by omega) (by rw [ht]; exact hl) (by rw [ht]; exact ih)
    exact .cptr h1 (fun j cv hj => by rw [add_none]; exact h3 j cv hj) h4 h5
  | cptr hl h ih => intro cv k; cases k with | cptr hl' hc h' ho => exact .cptr (by omega) (fun j cv hj => hfz _ _ (hc j cv hj)) (two hl hl' ih h') ho
  | nilS => intro cv k; cases k; exact .nilS
  | nilS0 => intro cv k; cases k; exact .csl0
  | emp => intro cv k; cases k; exact .emp
  | emp0 =>
    intro cv k
    obtain ⟨b, rfl⟩ := k.emp_inv
    cases b with
    | none => exact .csl0
    | some a => exact .csl (cvs := []) rfl (fun j cv h => by simp at h) (fun j v cv h => by simp at h) (fun cv h => by simp at h) (Nat.le_refl _)
  | nsl => intro cv k; cases k; exact .nsl
  | nsl0 =>
    intro cv k
    obtain ⟨a, c, rfl⟩ := k.nsl_inv
    exact .csl (cvs := []) rfl (fun j cv h => by simp at h) (fun j v cv h => by simp at h) (fun cv h => by simp at h) (Nat.zero_le _)
  | sl h => intro cv k; cases k with | sl hp ha ht hc hn hs hk => exact .sl (hpl _ _ _ h hp) ha ht hc hn hs hk
  | @fsl id off n sz cs ds hρ hS ho hl h ih =>
    intro cv k
    obtain ⟨a, c, p, rfl, hp, ha, _, _, hn, hs, _⟩ := k.sl_inv
    obtain ⟨cvs, h1, h2, h3, h4, h5⟩ := froz hρ hS hp ho hl ih
    refine .csl h1 (fun j cv hj => ?_) h4 h5 hn
    have hj' : j < cvs.length := (List.getElem?_eq_some_iff.1 hj).1
    have : 0 < n := Nat.pos_of_ne_zero fun h0 => by rw [h0, Nat.zero_mul] at h2; omega
    rw [ha (by omega), add_none]; exact h3 j cv hj
  | slc h => intro cv k; cases k with | slc hp ha hk hn hs => exact .slc (hpl _ _ _ h hp) ha hk hn hs
  | @fslc id off n c sz cs ds hρ hS ho hl h ih =>
    intro cv k
    obtain ⟨a, p, rfl, hp, ha, _, hn, hs⟩ := k.slc_inv
    obtain ⟨cvs, h1, h2, h3, h4, h5⟩ := froz hρ hS hp ho hl ih
    refine .csl h1 (fun j cv hj => ?_) h4 h5 hn
    have hj' : j < cvs.length := (List.getElem?_eq_some_iff.1 hj).1
    have : 0 < n := Nat.pos_of_ne_zero fun h0 => by rw [h0, Nat.zero_mul] at h2; omega
    rw [ha (by omega), add_none]; exact h3 j cv hj
  | @csl cs ds n hl h ih =>
    intro cv k
    obtain ⟨a, c, cvs, rfl, h1, hn, hc⟩ | ⟨rfl, rfl, rfl⟩ := k.csl_inv
    · exact .csl (by have := h1.1.1; omega) (fun j cv hj => hfz _ _ (hc j cv hj)) (two hl h1.1.1 ih h1.1.2) h1.2 hn
    · have : ds = [] := List.eq_nil_of_length_eq_zero (by simpa using hl.symm)
      subst this; exact .csl0
  | csln hl h ih => intro cv k; cases k with | csln hl' hc h' ho hn hb ha => exact .csln (by omega) (fun j cv hj => hfz _ _ (hc j cv hj)) (two hl hl' ih h') ho hn hb ha
  | cslnF hl h ih => intro cv k; cases k with | csln hl' hc h' ho hn hb ha => exact .csl (by omega) (fun j cv hj => hfz _ _ (hc j cv hj)) (two hl hl' ih h') ho hn
  | nilM => intro cv k; cases k; exact .nilM
  | map h => intro cv k; cases k with | map hp => exact .map (hpl _ _ _ h hp)
  | nilC => intro cv k; cases k; exact .nilC
  | chan h => intro cv k; cases k with | chan hp => exact .chan (hpl _ _ _ h hp)
  | fn hl h ih => intro cv k; cases k with | fn hl' h' => exact .fn (by omega) (two hl hl' ih h')
  | nilF => intro cv k; cases k; exact .nilF
  | nilI => intro cv k; cases k; exact .nilI
  | agg hl h ih => intro cv k; cases k with | agg hl' h' ho => exact .agg (by omega) (two hl hl' ih h') ho
  | tup hl h ih => intro cv k; cases k with | tup hl' h' => exact .tup (by omega) (two hl hl' ih h')
  | junk => intro cv k; cases k with | junk ho => exact .junk ho

theorem ObjCv.rel (hr : Rel w0 φ S w) (hV : ∀ {v u : AV} {cv : Value}, Cv S ρ v u → V w0 φ v cv → V w0 φ' u cv) {x y : AObj} (h : ObjCv S ρ x y) {p : Pl} (ho : objRel w0 φ w p x) : objRel w0 φ' w p y := by
  cases h with
  | cells hl h =>
    obtain ⟨h1, h2, ccs, e, fr, h3, h4, h5, h6, h7⟩ := ho
    refine ⟨by omega, h2, ccs, e, fr, h3, h4, h5, by omega, fun j u hu => ?_⟩
    have hj := (List.getElem?_eq_some_iff.1 hu).1
    obtain ⟨cv, a, b, c⟩ := h7 j _ (List.getElem?_eq_getElem (by omega))
    exact ⟨cv, a, hV (h j _ u (List.getElem?_eq_getElem (by omega)) hu) b, c⟩
  | map hl h =>
    obtain ⟨h2, ces, clk, h3, h4, h5⟩ := ho
    refine ⟨h2, ces, clk, h3, by omega, fun j k v e hj he => ?_⟩
    rename_i es fs
    have hj' := (List.getElem?_eq_some_iff.1 hj).1
    have q := h j es[j].1 es[j].2 k v (List.getElem?_eq_getElem (by omega)) hj
    have q2 := h5 j es[j].1 es[j].2 e (List.getElem?_eq_getElem (by omega)) he
    exact ⟨hV q.1 q2.1, hV q.2 q2.2⟩
  | chan hl h =>
    obtain ⟨h2, cb, s, r, h3, h4⟩ := ho
    refine ⟨h2, cb, s, r, h3, by have := h4.1; omega, fun j u cv hu hcv => ?_⟩
    rename_i cs ds
    have hj := (List.getElem?_eq_some_iff.1 hu).1
    exact hV (h j cs[j] u (List.getElem?_eq_getElem (by omega)) hu) (h4.2 j _ cv (List.getElem?_eq_getElem (by omega)) hcv)
  | dead => trivial

/-- objects of fewer places stay as they are -/
theorem objRel.cvRefl {p : Pl} {x : AObj} (h : objRel w0 φ w p x) {S1 : Store} (hρ : ∀ i, i < φ.pl.length → ρ i = some i) : ObjCv S1 ρ x x := by
  cases x with
  | cells cs =>
    obtain ⟨_, _, ccs, e, fr, _, _, _, _, h7⟩ := h
    exact .cells rfl fun j v u a b => by rw [a] at b; cases b; obtain ⟨cv, _, c, _⟩ := h7 j v a; exact c.cvRefl hρ
  | map es =>
    obtain ⟨_, ces, clk, _, h4, h5⟩ := h
    refine .map rfl fun j k v k' v' a b => ?_
    rw [a] at b; cases b
    have hj := (List.getElem?_eq_some_iff.1 a).1
    have := h5 j k v ces[j] a (by rw [Array.getElem?_eq_getElem])
    exact ⟨this.1.cvRefl hρ, this.2.cvRefl hρ⟩
  | chan c cs =>
    obtain ⟨_, cb, s, r, _, h4⟩ := h
    refine .chan rfl fun j v u a b => ?_
    rw [a] at b; cases b
    obtain ⟨cv, _, c⟩ := h4.get a
    exact c.cvRefl hρ
  | dead => exact .dead _
end

/-- what is there behind a call, told anew -/
def Conv (S0 S1 : Store) (v1 : AV) (S' : Store) (v' : AV) : Prop :=
  ∃ (ρ : Nat → Option Nat) (σ : Nat → Nat), (∀ i, i < S0.length → ρ i = some i) ∧ (∀ i i', ρ i = some i' → i' < S'.length ∧ σ i' = i) ∧
    (∀ i', i' < S'.length → σ i' < S1.length ∧ ρ (σ i') = some i') ∧
    (∀ i' x', S'[i']? = some x' → (i' < S0.length ∧ S0[i']? = some x' ∧ S1[i']? = some x') ∨ ∃ x, S1[σ i']? = some x ∧ ObjCv S1 ρ x x') ∧ Cv S1 ρ v1 v'

open Classical in
theorem Conv.rel {w0 w00 w : World} {φ0 φ : Pc} {S0 S1 S' : Store} {v1 v' : AV} {cv : Value} (hc : Conv S0 S1 v1 S' v') (h0 : Rel w0 φ0 S0 w00) (hx : Ext φ0 φ) (hr : Rel w0 φ S1 w) (hv : V w0 φ v1 cv) :
    ∃ φ', Ext φ0 φ' ∧ Rel w0 φ' S' w ∧ V w0 φ' v' cv := by
  obtain ⟨ρ, σ, hρ, hσ, hσ', hS, hV⟩ := hc
  let fz' : Addr → Option Value := fun a => if ∃ (i : Nat) (p : Pl) (x : AObj), ρ i = none ∧ φ.pl[i]? = some p ∧ S1[i]? = some x ∧ live x ∧ a.block = p.b then w.cell? a else φ.fz a
  let φ' : Pc := ⟨(List.range S'.length).map fun i' => (φ.pl[σ i']?).getD ⟨0, 0, 0, 0⟩, fz'⟩
  have hlen : φ'.pl.length = S'.length := by simp [φ']
  have hpl : ∀ (i i' : Nat) (p : Pl), ρ i = some i' → φ.pl[i]? = some p → φ'.pl[i']? = some p := fun i i' p h1 h2 => by
    obtain ⟨k1, k2⟩ := hσ i i' h1
    simp only [φ', List.getElem?_map, List.getElem?_range k1, Option.map_some, k2, h2, Option.getD_some]
  have hpl' : ∀ (i' : Nat) (p : Pl), φ'.pl[i']? = some p → φ.pl[σ i']? = some p ∧ ρ (σ i') = some i' ∧ i' < S'.length := fun i' p h => by
    have hi : i' < S'.length := by rw [← hlen]; exact (List.getElem?_eq_some_iff.1 h).1
    obtain ⟨k1, k2⟩ := hσ' i' hi
    obtain ⟨x, hx⟩ : ∃ x, S1[σ i']? = some x := ⟨_, List.getElem?_eq_getElem k1⟩
    obtain ⟨q, hq⟩ := hr.place hx
    have := hpl _ _ _ k2 hq
    rw [h] at this; cases this
    exact ⟨hq, k2, hi⟩
  have hfz : ∀ (a : Addr) (cv : Value), φ.fz a = some cv → fz' a = some cv := fun a cv h => by
    simp only [fz']
    split
    · exact hr.fz a cv h
    · exact h
  have hnew : ∀ (i : Nat) (p : Pl) (x : AObj) (a : Addr) (cv : Value), ρ i = none → φ.pl[i]? = some p → S1[i]? = some x → live x → a.block = p.b → w.cell? a = some cv → fz' a = some cv := fun i p x a cv h1 h2 h3 h4 h5 h6 => by
    simp only [fz']; rw [if_pos ⟨i, p, x, h1, h2, h3, h4, h5⟩]; exact h6
  have hVV : ∀ {v u : AV} {cv : Value}, Cv S1 ρ v u → V w0 φ v cv → V w0 φ' u cv := fun h k => h.V (φ' := φ') hr hpl hfz hnew k
  have hobj : ∀ (i' : Nat) (x' : AObj), S'[i']? = some x' → ∃ x, S1[σ i']? = some x ∧ ObjCv S1 ρ x x' := fun i' x' h => by
    rcases hS i' x' h with ⟨k1, k2, k3⟩ | k
    · obtain ⟨p, hp⟩ := h0.place k2
      have e : σ i' = i' := (hσ i' i' (hρ i' k1)).2
      exact ⟨x', by rw [e]; exact k3, (h0.obj i' p x' hp k2).cvRefl fun i hi => hρ i (by rw [← h0.len]; exact hi)⟩
    · exact k
  refine ⟨φ', ⟨fun i p hp => ?_, fun a cv h => hfz a cv (hx.fz a cv h)⟩, ⟨hr.below, hlen, fun a cv h => ?_, fun a cv i' p x' ha hp hx' hl => ?_, fun i j p q x y hp hq hx hy lx ly hb => ?_, fun i' p x' hp hx' => ?_⟩, hVV hV hv⟩
  · have hi : i < S0.length := by rw [← h0.len]; exact (List.getElem?_eq_some_iff.1 hp).1
    exact hpl i i p (hρ i hi) (hx.pl i p hp)
  · simp only [φ', fz'] at h
    split at h
    · exact h
    · exact hr.fz a cv h
  · obtain ⟨k1, k2, k3⟩ := hpl' i' p hp
    obtain ⟨x, hx1, hx2⟩ := hobj i' x' hx'
    have lx := hx2.live hl
    simp only [φ', fz'] at ha
    split at ha
    · rename_i hex
      obtain ⟨i, q, y, q1, q2, q3, q4, q5⟩ := hex
      intro hb
      have := hr.inj i (σ i') q p y x q2 k1 q3 hx1 q4 lx (by rw [← q5]; exact hb.symm)
      rw [this, k2] at q1; cases q1
    · exact hr.fzb a cv _ p x ha k1 hx1 lx
  · obtain ⟨k1, k2, k3⟩ := hpl' i p hp
    obtain ⟨m1, m2, m3⟩ := hpl' j q hq
    obtain ⟨x1, hx1, hx2⟩ := hobj i x hx
    obtain ⟨y1, hy1, hy2⟩ := hobj j y hy
    have := hr.inj _ _ p q x1 y1 k1 m1 hx1 hy1 (hx2.live lx) (hy2.live ly) hb
    rw [this, m2] at k2; cases k2; rfl
  · obtain ⟨k1, k2, k3⟩ := hpl' i' p hp
    obtain ⟨x, hx1, hx2⟩ := hobj i' x' hx'
    exact hx2.rel hr hVV (hr.obj _ p x k1 hx1)

def Env.add (E : Env) (f : Nat) (p : List AV → Store → Option (AV × Store)) : Env := ⟨E.F, fun g => if g = f then some fun _ => p else E.prim g⟩

/-- a function is one that does just this -/
def PrimOK (E : Env) (f : Nat) (p : List AV → Store → Option (AV × Store)) : Prop :=
  ∀ (args : List AV) (S : Store) (v : AV) (S' : Store), p args S = some (v, S') → ∃ N v1 S1, run E N f args S = some (v1, S1) ∧ Conv S S1 v1 S' v

theorem EnvOK.add {P : Program} {w0 : World} {E : Env} (hmix : P.follows .mixedOrders = true) (hE : EnvOK P w0 E) {f : Nat} {p : List AV → Store → Option (AV × Store)} (hp : PrimOK E f p) : EnvOK P w0 (E.add f p) where
  fn := hE.fn
  prim := fun g q hq cf hcf args S v S' h φ w vs hr hv => by
    simp only [Env.add] at hq
    split at hq
    · rename_i hg; subst hg
      cases hq
      obtain ⟨N, v1, S1, h1, h2⟩ := hp args S v S' h
      rcases run_ok hmix hE N g args S v1 S1 h1 φ w vs hr hv with k | ⟨f, as, w1, k1, k2⟩
      · obtain ⟨φ', cv, w', k1, k2, k3, k4⟩ := k
        obtain ⟨φ2, m1, m2, m3⟩ := h2.rel hr k2 k3 k4
        exact .inl ⟨φ2, cv, w', k1, m1, m2, m3⟩
      · refine .inr ⟨f, as, w1, k1, k2.mono fun e w' hb => ?_⟩
        obtain ⟨φ', cv, e1, e2, e3, e4⟩ := hb
        obtain ⟨φ2, m1, m2, m3⟩ := h2.rel hr e2 e3 e4
        exact ⟨φ2, cv, e1, m1, m2, m3⟩
    · exact hE.prim g q hq cf hcf args S v S' h φ w vs hr hv

end Go.Proofs.Ytmijfhepagobdaa.Avm
