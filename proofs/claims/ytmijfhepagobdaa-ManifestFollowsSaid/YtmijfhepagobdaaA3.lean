/- What an abstract value, an abstract store and an abstract frame say of the machine's. -/
import Derived.Test.YtmijfhepagobdaaA2
import Derived.Below
import Derived.Laws.World
import Derived.WalkKit
set_option linter.unusedVariables false
set_option linter.unusedSimpArgs false
namespace Go.Proofs.Ytmijfhepagobdaa.Avm
open Go.RowKit

structure Pl where
  b : Nat
  o : Nat
  cap : Nat
  tot : Nat

/-- places of the objects; cells that stay as they are -/
structure Pc where
  pl : List Pl
  fz : Addr → Option Value
def Pc.snoc (φ : Pc) (p : Pl) : Pc := ⟨φ.pl ++ [p], φ.fz⟩

inductive V (w0 : World) (φ : Pc) : AV → Value → Prop
  | int (k : IntKind) (n : Int) : V w0 φ (.int k n) (.int k n)
  | bool (b : Bool) : V w0 φ (.bool b) (.bool b)
  | str (s : ByteArray) : V w0 φ (.str s.data.toList) (.string s)
  | nilP : V w0 φ .nilP (.pointer none)
  | ptr {id off : Nat} {p : Pl} (hp : φ.pl[id]? = some p) : V w0 φ (.ptr id off) (.pointer (some ⟨p.b, p.o + off, none⟩))
  | cptr {cs : List AV} {cvs : List Value} {a : Addr} (hl : cs.length = cvs.length) (hc : ∀ (j : Nat) (cv : Value), cvs[j]? = some cv → φ.fz (a.add j) = some cv)
      (h : ∀ (j : Nat) (v : AV) (cv : Value), cs[j]? = some v → cvs[j]? = some cv → V w0 φ v cv) (ho : ∀ cv, cv ∈ cvs → cv.oneCell' = true) : V w0 φ (.cptr cs) (.pointer (some a))
  | nilS : V w0 φ .nilS (.slice none 0 0)
  | sl {id off n sz c : Nat} {a : Addr} {p : Pl} (hp : φ.pl[id]? = some p) (ha : 0 < c → a = ⟨p.b, p.o + off, none⟩) (ht : p.tot ≤ off + c * sz)
      (hc : p.o + off + c * sz ≤ p.cap) (hn : n ≤ c) (hs : 0 < sz) (hk : off + n * sz ≤ p.tot) : V w0 φ (.sl id off n sz) (.slice (some a) n c)
  | slc {id off n sz c : Nat} {a : Addr} {p : Pl} (hp : φ.pl[id]? = some p) (ha : 0 < c → a = ⟨p.b, p.o + off, none⟩) (hk : off + c * sz ≤ p.tot) (hn : n ≤ c) (hs : 0 < sz) : V w0 φ (.slc id off n c sz) (.slice (some a) n c)
  | csl {cs : List AV} {cvs : List Value} {a : Addr} {n c : Nat} (hl : cs.length = cvs.length) (hc : ∀ (j : Nat) (cv : Value), cvs[j]? = some cv → φ.fz (a.add j) = some cv)
      (h : ∀ (j : Nat) (v : AV) (cv : Value), cs[j]? = some v → cvs[j]? = some cv → V w0 φ v cv) (ho : ∀ cv, cv ∈ cvs → cv.oneCell' = true) (hn : n ≤ c) : V w0 φ (.csl cs n) (.slice (some a) n c)
  | csln {cs : List AV} {cvs : List Value} {a : Addr} {n c : Nat} (hl : cs.length = cvs.length) (hc : ∀ (j : Nat) (cv : Value), cvs[j]? = some cv → φ.fz (a.add j) = some cv)
      (h : ∀ (j : Nat) (v : AV) (cv : Value), cs[j]? = some v → cvs[j]? = some cv → V w0 φ v cv) (ho : ∀ cv, cv ∈ cvs → cv.oneCell' = true) (hn : n ≤ c) (hb : w0.heap.size ≤ a.block) (ha : a.spot = none) : V w0 φ (.csln cs n) (.slice (some a) n c)
  | csl0 : V w0 φ (.csl [] 0) (.slice none 0 0)
  | emp {b : Option Addr} : V w0 φ .emp (.slice b 0 0)
  | nsl {a : Addr} {c : Nat} : V w0 φ .nsl (.slice (some a) 0 c)
  | nilM : V w0 φ .nilM (.map none)
  | map {id : Nat} {p : Pl} (hp : φ.pl[id]? = some p) : V w0 φ (.map id) (.map (some p.b))
  | nilC : V w0 φ .nilC (.chan none)
  | chan {id : Nat} {p : Pl} (hp : φ.pl[id]? = some p) : V w0 φ (.chan id) (.chan (some p.b))
  | fn {f : Nat} {cap : List AV} {cvs : List Value} (hl : cap.length = cvs.length) (h : ∀ (j : Nat) (v : AV) (cv : Value), cap[j]? = some v → cvs[j]? = some cv → V w0 φ v cv) :
      V w0 φ (.fn f cap) (.func (.func f) #[] cvs.toArray)
  | nilF : V w0 φ .nilF .nilFunc
  | nilI : V w0 φ .nilI .nilIface
  | agg {cs : List AV} {cvs : List Value} (hl : cs.length = cvs.length) (h : ∀ (j : Nat) (v : AV) (cv : Value), cs[j]? = some v → cvs[j]? = some cv → V w0 φ v cv)
      (ho : ∀ cv, cv ∈ cvs → cv.oneCell' = true) : V w0 φ (.agg cs) (.agg cvs.toArray)
  | tup {vs : List AV} {cvs : List Value} (hl : vs.length = cvs.length) (h : ∀ (j : Nat) (v : AV) (cv : Value), vs[j]? = some v → cvs[j]? = some cv → V w0 φ v cv) : V w0 φ (.tup vs) (.tuple cvs.toArray)
  | junk {cv : Value} (ho : cv.oneCell' = true) : V w0 φ .junk cv

/-- more places, the old ones as they were; more cells that stay -/
structure Ext (φ φ' : Pc) : Prop where
  pl : ∀ (i : Nat) (p : Pl), φ.pl[i]? = some p → φ'.pl[i]? = some p
  fz : ∀ (a : Addr) (cv : Value), φ.fz a = some cv → φ'.fz a = some cv
theorem Ext.refl (φ : Pc) : Ext φ φ := ⟨fun _ _ h => h, fun _ _ h => h⟩
theorem Ext.trans {a b c : Pc} (h : Ext a b) (k : Ext b c) : Ext a c := ⟨fun i p hi => k.pl i p (h.pl i p hi), fun i p hi => k.fz i p (h.fz i p hi)⟩
theorem Ext.snoc (φ : Pc) (p : Pl) : Ext φ (φ.snoc p) := ⟨fun i q h => by
  rw [Pc.snoc, List.getElem?_append_left (List.getElem?_eq_some_iff.1 h).1]; exact h, fun _ _ h => h⟩

theorem V.mono {w0 : World} {φ φ' : Pc} (hx : Ext φ φ') {v : AV} {cv : Value} (h : V w0 φ v cv) : V w0 φ' v cv := by
  induction h with
  | int k n => exact .int k n
  | bool b => exact .bool b
  | str s => exact .str s
  | nilP => exact .nilP
  | ptr hp => exact .ptr (hx.pl _ _ hp)
  | cptr hl hc _ ho ih => exact .cptr hl (fun j cv h => hx.fz _ _ (hc j cv h)) ih ho
  | nilS => exact .nilS
  | sl hp ha ht hc hn hs hk => exact .sl (hx.pl _ _ hp) ha ht hc hn hs hk
  | slc hp ha hk hn hs => exact .slc (hx.pl _ _ hp) ha hk hn hs
  | csl hl hc _ ho hn ih => exact .csl hl (fun j cv h => hx.fz _ _ (hc j cv h)) ih ho hn
  | csln hl hc _ ho hn hb ha ih => exact .csln hl (fun j cv h => hx.fz _ _ (hc j cv h)) ih ho hn hb ha
  | csl0 => exact .csl0
  | emp => exact .emp
  | nsl => exact .nsl
  | nilM => exact .nilM
  | map hp => exact .map (hx.pl _ _ hp)
  | nilC => exact .nilC
  | chan hp => exact .chan (hx.pl _ _ hp)
  | fn hl _ ih => exact .fn hl ih
  | nilF => exact .nilF
  | nilI => exact .nilI
  | agg hl _ ho ih => exact .agg hl ih ho
  | tup hl _ ih => exact .tup hl ih
  | junk ho => exact .junk ho

/-- lists of values -/
def Vs (w0 : World) (φ : Pc) (cs : List AV) (cvs : List Value) : Prop := cs.length = cvs.length ∧ ∀ (j : Nat) (v : AV) (cv : Value), cs[j]? = some v → cvs[j]? = some cv → V w0 φ v cv
/-- lists of cells -/
def Vc (w0 : World) (φ : Pc) (cs : List AV) (cvs : List Value) : Prop := Vs w0 φ cs cvs ∧ ∀ cv, cv ∈ cvs → cv.oneCell' = true

section
variable {w0 : World} {φ φ' : Pc}
theorem Vs.mono (hx : Ext φ φ') {cs : List AV} {cvs : List Value} (h : Vs w0 φ cs cvs) : Vs w0 φ' cs cvs := ⟨h.1, fun j v cv a b => (h.2 j v cv a b).mono hx⟩
theorem Vc.mono (hx : Ext φ φ') {cs : List AV} {cvs : List Value} (h : Vc w0 φ cs cvs) : Vc w0 φ' cs cvs := ⟨h.1.mono hx, h.2⟩
theorem Vs.nil : Vs w0 φ [] [] := ⟨rfl, fun j v cv h => by simp at h⟩
theorem Vs.cons {v : AV} {cv : Value} {cs : List AV} {cvs : List Value} (h : V w0 φ v cv) (k : Vs w0 φ cs cvs) : Vs w0 φ (v :: cs) (cv :: cvs) := by
  refine ⟨by simp [k.1], fun j a b ha hb => ?_⟩
  cases j with
  | zero => simp at ha hb; subst ha; subst hb; exact h
  | succ j => simp at ha hb; exact k.2 j a b ha hb
theorem Vs.cons_inv {v : AV} {cs : List AV} {cvs : List Value} (h : Vs w0 φ (v :: cs) cvs) : ∃ cv cvs', cvs = cv :: cvs' ∧ V w0 φ v cv ∧ Vs w0 φ cs cvs' := by
  cases cvs with
  | nil => simp [Vs] at h
  | cons cv cvs => exact ⟨cv, cvs, rfl, h.2 0 v cv rfl rfl, by simpa using h.1, fun j a b ha hb => h.2 (j + 1) a b (by simpa using ha) (by simpa using hb)⟩
theorem Vs.append {cs ds : List AV} {cvs dvs : List Value} (h : Vs w0 φ cs cvs) (k : Vs w0 φ ds dvs) : Vs w0 φ (cs ++ ds) (cvs ++ dvs) := by
  refine ⟨by simp [h.1, k.1], fun j a b ha hb => ?_⟩
  by_cases hj : j < cs.length
  · rw [List.getElem?_append_left hj] at ha
    rw [List.getElem?_append_left (h.1 ▸ hj)] at hb
    exact h.2 j a b ha hb
  · rw [List.getElem?_append_right (by omega)] at ha
    rw [List.getElem?_append_right (by have := h.1; omega), ← h.1] at hb
    exact k.2 _ a b ha hb
theorem Vs.take {cs : List AV} {cvs : List Value} (h : Vs w0 φ cs cvs) (n : Nat) : Vs w0 φ (cs.take n) (cvs.take n) := by
  refine ⟨by simp [h.1], fun j a b ha hb => ?_⟩
  rw [List.getElem?_take] at ha hb
  split at ha
  · simp_all; exact h.2 j a b ha hb
  · cases ha
theorem Vs.drop {cs : List AV} {cvs : List Value} (h : Vs w0 φ cs cvs) (n : Nat) : Vs w0 φ (cs.drop n) (cvs.drop n) := by
  refine ⟨by simp [h.1], fun j a b ha hb => ?_⟩
  rw [List.getElem?_drop] at ha hb
  exact h.2 _ a b ha hb
theorem Vs.get {cs : List AV} {cvs : List Value} (h : Vs w0 φ cs cvs) {j : Nat} {v : AV} (hv : cs[j]? = some v) : ∃ cv, cvs[j]? = some cv ∧ V w0 φ v cv := by
  have hj : j < cvs.length := by have := (List.getElem?_eq_some_iff.1 hv).1; have := h.1; omega
  exact ⟨cvs[j], List.getElem?_eq_getElem hj, h.2 j v _ hv (List.getElem?_eq_getElem hj)⟩
theorem Vc.append {cs ds : List AV} {cvs dvs : List Value} (h : Vc w0 φ cs cvs) (k : Vc w0 φ ds dvs) : Vc w0 φ (cs ++ ds) (cvs ++ dvs) :=
  ⟨h.1.append k.1, fun cv hcv => (List.mem_append.1 hcv).elim (h.2 cv) (k.2 cv)⟩
theorem Vc.take {cs : List AV} {cvs : List Value} (h : Vc w0 φ cs cvs) (n : Nat) : Vc w0 φ (cs.take n) (cvs.take n) := ⟨h.1.take n, fun cv hcv => h.2 cv (List.mem_of_mem_take hcv)⟩
theorem Vc.drop {cs : List AV} {cvs : List Value} (h : Vc w0 φ cs cvs) (n : Nat) : Vc w0 φ (cs.drop n) (cvs.drop n) := ⟨h.1.drop n, fun cv hcv => h.2 cv (List.mem_of_mem_drop hcv)⟩
theorem Vc.nil : Vc w0 φ [] [] := ⟨.nil, fun _ h => by cases h⟩
theorem Vc.cons {v : AV} {cv : Value} {cs : List AV} {cvs : List Value} (h : V w0 φ v cv) (ho : cv.oneCell' = true) (k : Vc w0 φ cs cvs) : Vc w0 φ (v :: cs) (cv :: cvs) :=
  ⟨.cons h k.1, fun x hx => by cases hx with | head => exact ho | tail _ hx => exact k.2 x hx⟩

/-- a value's cells -/
theorem V.cells {v : AV} {cv : Value} (h : V w0 φ v cv) (hn : v.cells ≠ []) : Vc w0 φ v.cells cv.cells.toList := by
  cases h with
  | agg hl h ho => exact ⟨⟨hl, h⟩, ho⟩
  | tup => exact absurd rfl hn
  | junk ho =>
    have : cv.cells = #[cv] := by cases cv <;> simp_all [Value.oneCell', Value.cells]
    rw [this]; exact .cons (.junk ho) ho .nil
  | _ => all_goals (refine Vc.cons ?_ rfl .nil; constructor <;> assumption)
end

/-- one object -/
def objRel (w0 : World) (φ : Pc) (w : World) (p : Pl) : AObj → Prop
  | .cells cs => p.tot = cs.length ∧ w0.heap.size ≤ p.b ∧ ∃ ccs e fr, w.heap[p.b]? = some (.cells ccs e fr) ∧ ccs.size = p.cap ∧ (fr = (0, 0) ∨ ccs.size ≤ fr.1) ∧
      p.o + cs.length ≤ ccs.size ∧ ∀ (j : Nat) (v : AV), cs[j]? = some v → ∃ cv, ccs[p.o + j]? = some cv ∧ V w0 φ v cv ∧ cv.oneCell' = true
  | .map es => w0.heap.size ≤ p.b ∧ ∃ ces clk, w.heap[p.b]? = some (.map ces clk) ∧ ces.size = es.length ∧
      ∀ (j : Nat) (k v : AV) (e : MapEntry), es[j]? = some (k, v) → ces[j]? = some e → V w0 φ k e.key ∧ V w0 φ v e.val
  | .chan cap buf => w0.heap.size ≤ p.b ∧ ∃ cb s r, w.heap[p.b]? = some (.chan cap cb false s r false) ∧ Vs w0 φ buf cb.toList
  | .dead => True

def live : AObj → Prop
  | .dead => False
  | _ => True

structure Rel (w0 : World) (φ : Pc) (S : Store) (w : World) : Prop where
  below : Below w0.heap.size w0 w
  len : φ.pl.length = S.length
  fz : ∀ (a : Addr) (cv : Value), φ.fz a = some cv → w.cell? a = some cv
  fzb : ∀ (a : Addr) (cv : Value) (i : Nat) (p : Pl) (x : AObj), φ.fz a = some cv → φ.pl[i]? = some p → S[i]? = some x → live x → p.b ≠ a.block
  inj : ∀ (i j : Nat) (p q : Pl) (x y : AObj), φ.pl[i]? = some p → φ.pl[j]? = some q → S[i]? = some x → S[j]? = some y → live x → live y → p.b = q.b → i = j
  obj : ∀ (i : Nat) (p : Pl) (x : AObj), φ.pl[i]? = some p → S[i]? = some x → objRel w0 φ w p x

/-- slots that live on -/
structure FRel (w0 : World) (φ : Pc) (gl : List Nat) (N : Nat) (g : Frame) (a : Act) : Prop where
  size : a.tmps.size = N
  defers : a.defers = []
  slot : ∀ t, t ∈ gl → V w0 φ (g t) (a.tmps.getD t undef)

end Go.Proofs.Ytmijfhepagobdaa.Avm
