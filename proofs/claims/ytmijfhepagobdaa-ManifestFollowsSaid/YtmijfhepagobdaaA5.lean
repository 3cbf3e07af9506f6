/- Operations that make no memory: the machine gives what the abstract machine gives. -/
import Derived.Test.YtmijfhepagobdaaA4
import Derived.Lib.ConvBytes
import Derived.Laws.BytesArg
import Derived.WalkLawsBesides
set_option linter.unusedVariables false
set_option linter.unusedSimpArgs false
set_option linter.unusedSectionVars false
namespace Go.Proofs.Ytmijfhepagobdaa.Avm
open Go.RowKit

theorem guard_ok {P : Program} {w : World} (op : BinOp) (t : TypeId) (x y : Operand) (a b : Value) (h1 : ∀ cs, a ≠ .agg cs) (h2 : a ≠ .nilIface) : (eqGuard op t x y a b).run P w = .ok () w := by
  unfold eqGuard
  cases a <;> first | exact absurd rfl (h1 _) | exact absurd rfl h2 | (cases op <;> rfl)

/-- what an operation leaves -/
def Gives (w0 : World) (φ : Pc) (S' : Store) (v : AV) (r : Result Next) : Prop :=
  ∃ φ' cv w', (r = .ok (.value cv) w' ∨ (r = .ok .skip w' ∧ cv = undef)) ∧ Ext φ φ' ∧ Rel w0 φ' S' w' ∧ V w0 φ' v cv

theorem beqd (a b : List UInt8) : (a == b) = decide (a = b) := by rw [Bool.eq_iff_iff]; simp

/-- a scalar's value -/
def sv : AV → Value
  | .int k n => .int k n
  | .bool b => .bool b
  | .str s => .string ⟨s.toArray⟩
  | _ => undef

section inv
variable {w0 : World} {φ : Pc} {cv : Value}
theorem V.int_inv {k : IntKind} {n : Int} (h : V w0 φ (.int k n) cv) : cv = .int k n := by cases h; rfl
theorem V.bool_inv {b : Bool} (h : V w0 φ (.bool b) cv) : cv = .bool b := by cases h; rfl
theorem V.str_inv {s : List UInt8} (h : V w0 φ (.str s) cv) : cv = .string ⟨s.toArray⟩ := by cases h; rfl
theorem V.str' (s : List UInt8) : V w0 φ (.str s) (.string ⟨s.toArray⟩) := V.str (⟨s.toArray⟩ : ByteArray)
theorem V.undef : V w0 φ AV.undef undef := .tup (cvs := []) rfl (fun j v cv h => by simp at h)
theorem V.tup_inv {vs : List AV} (h : V w0 φ (.tup vs) cv) : ∃ cvs, cv = .tuple cvs.toArray ∧ Vs w0 φ vs cvs := by cases h with | tup hl h => exact ⟨_, rfl, hl, h⟩
theorem V.agg_inv {cs : List AV} (h : V w0 φ (.agg cs) cv) : ∃ cvs, cv = .agg cvs.toArray ∧ Vc w0 φ cs cvs := by cases h with | agg hl h ho => exact ⟨_, rfl, ⟨hl, h⟩, ho⟩
theorem V.mkAgg {cs : List AV} {cvs : List Value} (h : Vc w0 φ cs cvs) : V w0 φ (.agg cs) (.agg cvs.toArray) := .agg h.1.1 h.1.2 h.2
theorem V.fn_inv {f : Nat} {cap : List AV} (h : V w0 φ (.fn f cap) cv) : ∃ cvs, cv = .func (.func f) #[] cvs.toArray ∧ Vs w0 φ cap cvs := by cases h with | fn hl h => exact ⟨_, rfl, hl, h⟩
theorem V.ptr_inv {id off : Nat} (h : V w0 φ (.ptr id off) cv) : ∃ p, φ.pl[id]? = some p ∧ cv = .pointer (some ⟨p.b, p.o + off, none⟩) := by cases h with | ptr hp => exact ⟨_, hp, rfl⟩
theorem V.cptr_inv {cs : List AV} (h : V w0 φ (.cptr cs) cv) : ∃ a cvs, cv = .pointer (some a) ∧ Vc w0 φ cs cvs ∧ ∀ (j : Nat) (u : Value), cvs[j]? = some u → φ.fz (a.add j) = some u := by
  cases h with | cptr hl hc h ho => exact ⟨_, _, rfl, ⟨⟨hl, h⟩, ho⟩, hc⟩
theorem V.csl_inv {cs : List AV} {n : Nat} (h : V w0 φ (.csl cs n) cv) : (∃ a c cvs, cv = .slice (some a) n c ∧ Vc w0 φ cs cvs ∧ n ≤ c ∧ ∀ (j : Nat) (u : Value), cvs[j]? = some u → φ.fz (a.add j) = some u) ∨ (cs = [] ∧ n = 0 ∧ cv = .slice none 0 0) := by
  cases h with
  | csl hl hc h ho hn => exact .inl ⟨_, _, _, rfl, ⟨⟨hl, h⟩, ho⟩, hn, hc⟩
  | csl0 => exact .inr ⟨rfl, rfl, rfl⟩
theorem V.nsl_inv (h : V w0 φ .nsl cv) : ∃ a c, cv = .slice (some a) 0 c := by cases h; exact ⟨_, _, rfl⟩
theorem V.emp_inv (h : V w0 φ .emp cv) : ∃ b, cv = .slice b 0 0 := by cases h; exact ⟨_, rfl⟩
theorem V.mkCptr {cs : List AV} {cvs : List Value} {a : Addr} (h : Vc w0 φ cs cvs) (hc : ∀ (j : Nat) (u : Value), cvs[j]? = some u → φ.fz (a.add j) = some u) : V w0 φ (.cptr cs) (.pointer (some a)) := .cptr h.1.1 hc h.1.2 h.2
theorem V.mkCsl {cs : List AV} {cvs : List Value} {a : Addr} {n c : Nat} (h : Vc w0 φ cs cvs) (hn : n ≤ c) (hc : ∀ (j : Nat) (u : Value), cvs[j]? = some u → φ.fz (a.add j) = some u) : V w0 φ (.csl cs n) (.slice (some a) n c) := .csl h.1.1 hc h.1.2 h.2 hn
theorem V.sl_inv {id off n sz : Nat} (h : V w0 φ (.sl id off n sz) cv) : ∃ a c p, cv = .slice (some a) n c ∧ φ.pl[id]? = some p ∧ (0 < c → a = ⟨p.b, p.o + off, none⟩) ∧ p.tot ≤ off + c * sz ∧ p.o + off + c * sz ≤ p.cap ∧ n ≤ c ∧ 0 < sz ∧ off + n * sz ≤ p.tot := by
  cases h with | sl hp ha ht hc hn hs hk => exact ⟨_, _, _, rfl, hp, ha, ht, hc, hn, hs, hk⟩
theorem V.slc_inv {id off n c sz : Nat} (h : V w0 φ (.slc id off n c sz) cv) : ∃ a p, cv = .slice (some a) n c ∧ φ.pl[id]? = some p ∧ (0 < c → a = ⟨p.b, p.o + off, none⟩) ∧ off + c * sz ≤ p.tot ∧ n ≤ c ∧ 0 < sz := by
  cases h with | slc hp ha hk hn hs => exact ⟨_, _, rfl, hp, ha, hk, hn, hs⟩
theorem V.nilS_inv (h : V w0 φ .nilS cv) : cv = .slice none 0 0 := by cases h; rfl
end inv

section
variable {P : Program} {w0 w : World} {φ : Pc} {S S' : Store} {ev : AX → AV} {ρ : Operand → Value} {tr : Operand → Option AX} {cf : CallF} {o : Oper} {v : AV}
  (hr : Rel w0 φ S w) (hρ : ∀ x ax, tr x = some ax → V w0 φ (ev ax) (ρ x))
include hr

theorem gives_value {cv : Value} {r : Result Next} (h : r = .ok (.value cv) w) (hv : V w0 φ v cv) : Gives w0 φ S v r := ⟨φ, cv, w, .inl h, .refl _, hr, hv⟩

include hρ

theorem ok_move {x : Operand} (ho : o.op = .move x ∨ o.op = .assign x) {ao : AOp} (hc : compOp P tr o.op = some ao) (ha : aop cf S ev ao = some (v, S')) : Gives w0 φ S' v ((execOp ρ o).run P w) := by
  have hc : (tr x).map AOp.mv = some ao := by rcases ho with ho | ho <;> (rw [ho] at hc; exact hc)
  obtain ⟨ax, hx, rfl⟩ := Option.map_eq_some_iff.1 hc
  simp only [aop, Option.some.injEq, Prod.mk.injEq] at ha
  obtain ⟨rfl, rfl⟩ := ha
  exact gives_value hr (by rcases ho with ho | ho <;> simp [execOp, ho]) (hρ _ _ hx)

theorem ok_pick {c a b : Operand} (ho : o.op = .pick c a b) {ao : AOp} (hc : compOp P tr o.op = some ao) (ha : aop cf S ev ao = some (v, S')) : Gives w0 φ S' v ((execOp ρ o).run P w) := by
  rw [ho] at hc
  simp only [compOp, Option.bind_eq_some_iff, Option.map_eq_some_iff] at hc
  obtain ⟨ac, h1, aa, h2, ab, h3, rfl⟩ := hc
  have k1 := hρ _ _ h1
  simp only [aop] at ha
  split at ha
  · rename_i t ht
    rw [ht] at k1
    have := k1.bool_inv
    cases ha
    refine gives_value hr (cv := if t then ρ a else ρ b) (by simp [execOp, ho, this, asBool]) ?_
    cases t
    · exact hρ _ _ h3
    · exact hρ _ _ h2
  · cases ha

theorem ok_nilck {x : Operand} (ho : o.op = .nilCheck x) {ao : AOp} (hc : compOp P tr o.op = some ao) (ha : aop cf S ev ao = some (v, S')) : Gives w0 φ S' v ((execOp ρ o).run P w) := by
  rw [ho] at hc
  obtain ⟨ax, hx, rfl⟩ := Option.map_eq_some_iff.1 hc
  have k := hρ _ _ hx
  simp only [aop] at ha
  split at ha
  · rename_i id off he
    rw [he] at k; obtain ⟨p, hp, e⟩ := k.ptr_inv
    cases ha; exact gives_value hr (by simp [execOp, ho, e]) (.ptr hp)
  · rename_i cs he
    rw [he] at k; have k' := k; obtain ⟨a, cvs, e, _⟩ := k.cptr_inv
    cases ha; rw [e] at k'; exact gives_value hr (by simp [execOp, ho, e]) k'
  · rename_i f cap he
    rw [he] at k; have k' := k; obtain ⟨cvs, e, _⟩ := k.fn_inv
    cases ha; rw [e] at k'; exact gives_value hr (by simp [execOp, ho, e]) k'
  · cases ha

theorem bin_int (op : BinOp) (t : TypeId) (k k' : IntKind) (a b : Int) (h : abin op (.int k a) (.int k' b) = some v) : (binOp op t (.int k a) (.int k' b)).run P w = .ok (sv v) w ∧ V w0 φ v (sv v) := by
  cases op <;> simp only [abin] at h
  all_goals first
    | (split at h
       · cases h
       · cases h; rename_i hb; exact ⟨by simp only [binOp, Op.shift]; rw [if_neg hb]; rfl, .int _ _⟩)
    | (split at h
       · rename_i hk; subst hk
         first
           | (cases h; exact ⟨by simp only [binOp]; rw [if_neg (by simp)]; rfl, .int _ _⟩)
           | (cases h; exact ⟨by simp only [binOp]; rw [if_neg (by simp)]; simp only [Op.intCmp, sv, Sem.run_pure] <;> first | rfl | (congr 2; simp), .bool _⟩)
           | (split at h
              · cases h
              · cases h; rename_i hb; exact ⟨by simp only [binOp]; rw [if_neg (by simp)]; simp only [Op.intDiv]; rw [if_neg hb]; rfl, .int _ _⟩)
       · cases h)

theorem bin_str (op : BinOp) (t : TypeId) (a b : List UInt8) (h : abin op (.str a) (.str b) = some v) : (binOp op t (.string ⟨a.toArray⟩) (.string ⟨b.toArray⟩)).run P w = .ok (sv v) w ∧ V w0 φ v (sv v) := by
  cases op <;> simp only [abin] at h
  all_goals first
    | (split at h
       · cases h; rename_i hb
         refine ⟨?_, .str' _⟩
         simp only [binOp, Op.stringOp]
         rw [if_neg (by simp [ByteArray.size, IntKind.max, IntKind.signed, IntKind.bits]; omega)]
         have : (⟨a.toArray⟩ ++ ⟨b.toArray⟩ : ByteArray) = ⟨(a ++ b).toArray⟩ := by
           apply WideShapes.bytes_inj
           simp [ByteArray.toList_data_append]
         rw [this]; rfl
       · cases h)
    | (cases h
       refine ⟨?_, .bool _⟩
       simp only [binOp, Op.stringOp, ByteArray.toList_eq, sv, Sem.run_pure]
       try simp only [beqd, Bool.not_or])
    | cases h

theorem ok_bin {op : BinOp} {t u : TypeId} {x y : Operand} (ho : o.op = .binOp op t x y u) {ao : AOp} (hc : compOp P tr o.op = some ao) {ax ay : AX} (hao : ao = .bin op ax ay) (hx : tr x = some ax) (hy : tr y = some ay)
    (ha : aop cf S ev ao = some (v, S')) : Gives w0 φ S' v ((execOp ρ o).run P w) := by
  subst hao
  simp only [aop, Option.map_eq_some_iff, Prod.mk.injEq] at ha
  obtain ⟨v', h, rfl, rfl⟩ := ha
  have kx := hρ _ _ hx
  have ky := hρ _ _ hy
  have hg := guard_ok (P := P) (w := w) op t x y (ρ x) (ρ y)
  generalize hvx : ev ax = vx at kx h
  generalize hvy : ev ay = vy at ky h
  cases vx <;> cases vy <;> try (simp [abin] at h; done)
  · have e1 := kx.int_inv; have e2 := ky.int_inv
    obtain ⟨hcv, hV⟩ := bin_int (P := P) (w := w) hr hρ op t _ _ _ _ h
    rw [e1, e2] at hg
    have hg := hg (by simp) (by simp)
    exact gives_value hr (by simp [execOp, ho, e1, e2, hg, hcv]) hV
  · have e1 := kx.str_inv; have e2 := ky.str_inv
    obtain ⟨hcv, hV⟩ := bin_str (P := P) (w := w) hr hρ op t _ _ h
    rw [e1, e2] at hg
    have hg := hg (by simp) (by simp)
    exact gives_value hr (by simp [execOp, ho, e1, e2, hg, hcv]) hV

end
end Go.Proofs.Ytmijfhepagobdaa.Avm
