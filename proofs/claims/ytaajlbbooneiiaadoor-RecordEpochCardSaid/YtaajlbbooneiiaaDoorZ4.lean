/- Slices cut, bytes to strings, lengths of maps, lookups, greatest and least, structs built. Maps: made, looked up, written; greatest and least; structs built. Operations that make or write memory. -/
import Derived.Test.YtaajlbbooneiiaaDoorZ3
import Derived.MapKept
import Derived.Laws.BytesString
import Derived.Laws.IdiomStrings
import Derived.Laws.MakeOwn
set_option linter.unusedVariables false
set_option linter.unusedSimpArgs false
set_option linter.unusedSectionVars false
namespace Go.Proofs.YtaajlbbooneiiaaDoor.Avm
open Go.RowKit

theorem asBytes_V {w0 : World} {φ : Pc} : ∀ {cs : List AV} {cvs : List Value} {s : List UInt8}, asBytes cs = some s → Vs w0 φ cs cvs → ∃ ns : List Int, cvs = ns.map (Value.int .u8) ∧ s = ns.map fun n => UInt8.ofNat n.toNat
  | [], cvs, s, h, k => by
    cases h
    have : cvs = [] := List.eq_nil_of_length_eq_zero k.1.symm
    exact ⟨[], by simp [this], rfl⟩
  | c :: cs, cvs, s, h, k => by
    obtain ⟨cv, cvs', rfl, h1, h2⟩ := k.cons_inv
    unfold asBytes at h
    split at h
    · rename_i q; exact absurd q (by simp)
    · rename_i n rest he
      cases he
      split at h
      · obtain ⟨s', h3, rfl⟩ := Option.map_eq_some_iff.1 h
        obtain ⟨ns, e1, e2⟩ := asBytes_V h3 h2
        exact ⟨n :: ns, by simp [e1, h1.int_inv], by simp [e2]⟩
      · cases h
    · cases h

section elems
variable {P : Program} {w0 w : World} {φ : Pc} {S : Store}
/-- the cells of a slice, in the world -/
theorem elems_slice (hr : Rel w0 φ S w) {sz : Nat} {x : AV} {cx : Value} {cs : List AV} {n : Nat} (hx : V w0 φ x cx) (hs : ∀ s, x ≠ .str s) (h : elems S sz x = some (cs, n)) :
    (cs = [] ∧ n = 0 ∧ cx = .slice none 0 0) ∨ ∃ a c cvs, cx = .slice (some a) n c ∧ cvs.length = n * sz ∧ Vc w0 φ cs cvs ∧ n ≤ c ∧ ∀ (j : Nat) (u : Value), cvs[j]? = some u → w.cell? (a.add j) = some u := by
  unfold elems at h
  split at h
  · cases h; exact .inl ⟨rfl, rfl, hx.nilS_inv⟩
  · cases h
    obtain ⟨b, e⟩ := hx.emp_inv
    cases b with
    | none => exact .inl ⟨rfl, rfl, e⟩
    | some a => exact .inr ⟨a, 0, [], e, by simp, .nil, Nat.le_refl _, fun j u hu => by simp at hu⟩
  · cases h
    obtain ⟨a, c, e⟩ := hx.nsl_inv
    exact .inr ⟨a, c, [], e, by simp, .nil, Nat.zero_le _, fun j u hu => by simp at hu⟩
  · rename_i cs' n'
    split at h
    · rename_i hl; cases h
      obtain ⟨a, c, cvs, e, h1, h2, h3⟩ | ⟨rfl, rfl, e⟩ := hx.csl_inv
      rotate_left
      · exact .inl ⟨rfl, rfl, e⟩
      exact .inr ⟨a, c, cvs, e, by rw [← h1.1.1]; exact hl, h1, h2, fun j u hu => hr.cell0 (h3 j u hu)⟩
    · cases h
  · rename_i id off n' sz'
    obtain ⟨a, c, p, e, hp, ha, ht, hc, hn, hsz, _⟩ := hx.sl_inv
    split at h
    · rename_i cs' hS
      split at h
      · rename_i hb; cases h
        obtain ⟨rfl, hb⟩ := hb
        obtain ⟨cvs, h1, h2, h3⟩ := hr.cells hp hS off (n * sz) hb
        refine .inr ⟨a, c, cvs, e, h2, h1, hn, fun j u hu => ?_⟩
        have : 0 < c := by
          rcases Nat.eq_zero_or_pos n with h0 | h0
          · have h0' : cvs = [] := List.eq_nil_of_length_eq_zero (by rw [h2, h0, Nat.zero_mul])
            subst h0'; simp at hu
          · omega
        rw [ha this, add_none]; exact h3 j u hu
      · cases h
    · cases h
  · rename_i id off n' c sz'
    obtain ⟨a, p, e, hp, ha, hk, hn, hsz⟩ := hx.slc_inv
    split at h
    · rename_i cs' hS
      split at h
      · rename_i hb; cases h
        obtain ⟨rfl, hb⟩ := hb
        obtain ⟨cvs, h1, h2, h3⟩ := hr.cells hp hS off (n * sz) hb
        refine .inr ⟨a, c, cvs, e, h2, h1, hn, fun j u hu => ?_⟩
        have : 0 < c := by
          rcases Nat.eq_zero_or_pos n with h0 | h0
          · have h0' : cvs = [] := List.eq_nil_of_length_eq_zero (by rw [h2, h0, Nat.zero_mul])
            subst h0'; simp at hu
          · omega
        rw [ha this, add_none]; exact h3 j u hu
      · cases h
    · cases h
  · exact absurd rfl (hs _)
  · cases h
end elems

section
variable {P : Program} {w0 w : World} {φ : Pc} {S S' : Store} {ev : AX → AV} {ρ : Operand → Value} {tr : Operand → Option AX} {cf : CallF} {o : Oper} {v : AV}
  (hr : Rel w0 φ S w) (hρ : ∀ x ax, tr x = some ax → V w0 φ (ev ax) (ρ x))
include hr hρ

theorem ok_b2s {s d e : TypeId} {x : Operand} (ho : o.op = .convert s d x) {ax : AX} (hs : P.underlying s = some (.slice e)) (he : P.underlying e = some (.int .u8)) (hd : P.underlying d = some .string) (hx : tr x = some ax)
    (ha : aop cf S ev (.b2s ax) = some (v, S')) : Gives w0 φ S' v ((execOp ρ o).run P w) := by
  have kx := hρ _ _ hx
  simp only [aop, Option.bind_eq_some_iff, Option.map_eq_some_iff, Prod.mk.injEq] at ha
  obtain ⟨⟨cs, n⟩, h1, s', h2, rfl, rfl⟩ := ha
  have hns : ∀ q, ev ax ≠ .str q := fun q hq => by rw [hq] at h1; simp at h1
  have h1 : elems S 1 (ev ax) = some (cs, n) := by
    split at h1
    · cases h1
    · exact h1
  rcases elems_slice hr kx hns h1 with ⟨rfl, rfl, e'⟩ | ⟨a, c, cvs, e', hl, hv, hn, hc⟩
  · cases h2
    refine gives_value hr (cv := .string ByteArray.empty) ?_ (.str ByteArray.empty)
    simp [execOp, ho, e', run_convert_bytes_nil (P := P) w s e hs he 0 0 d hd]
  · obtain ⟨ns, e1, rfl⟩ := asBytes_V h2 hv.1
    subst e1
    have hld := run_loadCells_list (P := P) w a _ hc
    rw [hl, Nat.mul_one] at hld
    have hb := run_bytesToString (P := P) w a n c ns (by rw [hld])
    refine gives_value hr (cv := .string ⟨(ns.map fun n => UInt8.ofNat n.toNat).toArray⟩) ?_ (.str' _)
    simp only [execOp, ho, e', Sem.run_bind, run_convert_bytes_string w s d e _ n c hs he hd, hb, foldl_push_bytes, Result.andThen_ok, Sem.run_pure]
    simp [ByteArray.empty, ByteArray.emptyWithCapacity]
    rfl

theorem ok_slice {t e : TypeId} {x : Operand} {lo hi mx : Option Operand} {alo ahi amx : Option AX} {ax : AX} {sz : Nat} (ho : o.op = .slice t x lo hi mx) (hu : P.underlying t = some (.slice e)) (hsz : szOf P e = some sz)
    (hx : tr x = some ax) (hlo : trO tr lo = some alo) (hhi : trO tr hi = some ahi) (hmx : trO tr mx = some amx)
    (ha : aop cf S ev (.slice sz ax alo ahi amx) = some (v, S')) : Gives w0 φ S' v ((execOp ρ o).run P w) := by
  have kx := hρ _ _ hx
  have hs := run_size (w := w) hsz
  have run : ∀ a len cap l h m, ρ x = .slice a len cap → (Instr.sliceBounds true len cap (lo.map ρ) (hi.map ρ) (mx.map ρ)).run P w = .ok (l, h, m) w →
      (execOp ρ o).run P w = .ok (.value (.slice (if m = l then a else a.map (·.add (l * sz))) (h - l) (m - l))) w := fun a len cap l h m e' hb => by
    simp only [execOp, ho, Instr.sliceAt, Sem.run_bind, run_underlying hu, Result.andThen_ok, Instr.slice, e', hb, hs.1, Sem.run_pure, pure_bind]
  have mxn : amx.isNone = mx.isNone := by
    cases mx with
    | none => simp only [trO, Option.some.injEq] at hmx; subst hmx; rfl
    | some y => simp only [trO, Option.map_eq_some_iff] at hmx; obtain ⟨a, _, rfl⟩ := hmx; rfl
  have hin : ahi.isSome = hi.isSome := by
    cases hi with
    | none => simp only [trO, Option.some.injEq] at hhi; subst hhi; rfl
    | some y => simp only [trO, Option.map_eq_some_iff] at hhi; obtain ⟨a, _, rfl⟩ := hhi; rfl
  simp only [aop] at ha
  split at ha
  · rename_i he
    rw [he] at kx; have e' := kx.nilS_inv
    simp only [Option.bind_eq_some_iff] at ha
    obtain ⟨l, el, h, eh, m, em, ha⟩ := ha
    split at ha
    · rename_i hb; cases ha
      obtain ⟨rfl, rfl, rfl, hm⟩ := hb
      rw [mxn, hin] at hm
      have hb := run_bounds (P := P) (w := w) hr hρ (isS := true) (len := 0) (cap := 0) (m := 0) hlo hhi hmx el eh em (by omega) (by omega) (by omega) (by omega) hm
      exact gives_value hr (run _ _ _ _ _ _ e' hb) (by simpa using V.nilS)
    · cases ha
  · rename_i he
    rw [he] at kx; obtain ⟨b', e'⟩ := kx.emp_inv
    simp only [Option.bind_eq_some_iff] at ha
    obtain ⟨l, el, h, eh, m, em, ha⟩ := ha
    split at ha
    · rename_i hb; cases ha
      obtain ⟨rfl, rfl, rfl, hm⟩ := hb
      rw [mxn, hin] at hm
      have hb := run_bounds (P := P) (w := w) hr hρ (isS := true) (len := 0) (cap := 0) (m := 0) hlo hhi hmx el eh em (by omega) (by omega) (by omega) (by omega) hm
      exact gives_value hr (run _ _ _ _ _ _ e' hb) (by simpa using V.emp)
    · cases ha
  · rename_i he
    rw [he] at kx; obtain ⟨b', c', e'⟩ := kx.nsl_inv
    simp only [Option.bind_eq_some_iff] at ha
    obtain ⟨l, el, h, eh, m, em, ha⟩ := ha
    split at ha
    · rename_i hb; cases ha
      obtain ⟨rfl, rfl, rfl, hm⟩ := hb
      rw [mxn, hin] at hm
      have mxs : amx.isSome = mx.isSome := by rw [← Option.not_isNone, mxn, Option.not_isNone]
      rw [mxs]
      cases mx with
      | none =>
        have hb := run_bounds (P := P) (w := w) hr hρ (isS := true) (len := 0) (cap := c') (m := c') hlo hhi (mx := none) (amx := none) rfl el eh rfl (by omega) (by omega) (by omega) (by omega) (.inl rfl)
        refine gives_value hr (run _ _ _ _ _ _ e' (by simpa using hb)) ?_
        simp only [Option.isSome_none, Bool.false_eq_true, if_false, Int.toNat_zero, Nat.sub_self, Nat.zero_mul]
        have hcs : ∀ a : Addr, V w0 φ (.csl [] 0) (.slice (some a) 0 (c' - 0)) := fun a => .csl (cvs := []) rfl (fun j cv h => by simp at h) (fun j v cv h => by simp at h) (fun cv h => by simp at h) (Nat.zero_le _)
        split <;> exact hcs _
      | some y =>
        have em' : optInt ev c' amx = some 0 := by
          simp only [trO, Option.map_eq_some_iff] at hmx; obtain ⟨ay, _, rfl⟩ := hmx; exact em
        have hb := run_bounds (P := P) (w := w) hr hρ (isS := true) hlo hhi hmx el eh em' (by omega) (by omega) (by omega) (by omega) hm
        refine gives_value hr (run _ _ _ _ _ _ e' hb) ?_
        simp only [Option.isSome_some, if_true, Int.toNat_zero, Nat.sub_self, Nat.zero_mul]
        exact .emp
    · cases ha
  · rename_i cs n he
    rw [he] at kx
    simp only [Option.bind_eq_some_iff] at ha
    obtain ⟨l, el, h, eh, m, em, ha⟩ := ha
    split at ha
    · rename_i hb; cases ha
      obtain ⟨b0, b1, b2, b3, b4⟩ := hb
      rw [mxn, hin] at b4
      obtain ⟨a, c, cvs, e', h1, hn, h2⟩ | ⟨rfl, rfl, e'⟩ := kx.csl_inv
      rotate_left
      · have hl0 : l = 0 := by omega
        have hh0 : h = 0 := by omega
        have hm0 : m = 0 := by omega
        subst hl0; subst hh0; subst hm0
        have hb := run_bounds (P := P) (w := w) hr hρ (isS := true) (len := 0) (cap := 0) (m := 0) hlo hhi hmx el eh em (by omega) (by omega) (by omega) (by omega) b4
        refine gives_value hr (run _ _ _ _ _ _ e' hb) ?_
        simp only [Int.toNat_zero, Nat.zero_mul, List.drop_nil, List.take_nil, Nat.sub_self, if_true]
        split
        · exact .emp
        · exact .csl0
      have hb : ∃ m', h.toNat ≤ m' ∧ (mx.isSome → m' = m.toNat) ∧ (Instr.sliceBounds true n c (lo.map ρ) (hi.map ρ) (mx.map ρ)).run P w = .ok (l.toNat, h.toNat, m') w := by
        cases mx with
        | none => exact ⟨c, by omega, by simp, by have := run_bounds (P := P) (w := w) hr hρ (isS := true) (len := n) (cap := c) (m := c) hlo hhi (mx := none) (amx := none) rfl el eh rfl b0 b1 (by omega) (by omega) (.inl rfl); simpa using this⟩
        | some y =>
          have em' : optInt ev c amx = some m := by
            simp only [trO, Option.map_eq_some_iff] at hmx; obtain ⟨ay, _, rfl⟩ := hmx; exact em
          exact ⟨m.toNat, by omega, fun _ => rfl, run_bounds (P := P) (w := w) hr hρ hlo hhi hmx el eh em' b0 b1 b2 (by omega) b4⟩
      obtain ⟨m', hm', hmm, hb⟩ := hb
      have mxs : amx.isSome = mx.isSome := by rw [← Option.not_isNone, mxn, Option.not_isNone]
      refine gives_value hr (run _ _ _ _ _ _ e' hb) ?_
      have hV := (h1.drop (l.toNat * sz)).take ((h.toNat - l.toNat) * sz)
      split
      · rename_i hq
        have hq1 := hmm (by rw [← mxs]; exact hq.1)
        have : m' = l.toNat := by rw [hq1, hq.2]
        rw [show h.toNat - l.toNat = 0 by omega, show m' - l.toNat = 0 by omega]
        split <;> exact .emp
      by_cases q : m' = l.toNat
      · rw [if_pos q]
        refine .mkCsl hV (by omega) fun j u hu => ?_
        have : (h.toNat - l.toNat) * sz = 0 := by rw [show h.toNat - l.toNat = 0 by omega, Nat.zero_mul]
        rw [this] at hu; simp at hu
      · rw [if_neg q]
        refine .mkCsl hV (by omega) fun j u hu => ?_
        rw [add_add]
        rw [List.getElem?_take] at hu
        split at hu
        · rw [List.getElem?_drop] at hu; exact h2 _ _ hu
        · cases hu
    · cases ha
  · rename_i id off n sz' he
    rw [he] at kx; obtain ⟨a, c, p, e', hp, hA, ht, hc, hn, hs', hk⟩ := kx.sl_inv
    simp only [Option.bind_eq_some_iff] at ha
    obtain ⟨l, el, h, eh, m, em, ha⟩ := ha
    split at ha
    · rename_i hb; cases ha
      obtain ⟨rfl, b0, b1, b2, b3, b4⟩ := hb
      rw [mxn, hin] at b4
      rw [mxn]
      cases mx with
      | none =>
        have hb := run_bounds (P := P) (w := w) hr hρ (isS := true) (len := n) (cap := c) (m := c) hlo hhi (mx := none) (amx := none) rfl el eh rfl b0 b1 (by omega) (by omega) (.inl rfl)
        refine gives_value hr (run _ _ _ _ _ _ e' (by simpa using hb)) ?_
        simp only [Option.isNone_none, if_true, Int.toNat_natCast]
        have hl : l.toNat ≤ c := by omega
        have : (l.toNat + (c - l.toNat)) * sz = c * sz := by rw [show l.toNat + (c - l.toNat) = c by omega]
        rw [Nat.add_mul] at this
        have hfin : V w0 φ (.sl id (off + l.toNat * sz) (h.toNat - l.toNat) sz) (.slice (some (if c = l.toNat then a else a.add (l.toNat * sz))) (h.toNat - l.toNat) (c - l.toNat)) := by
          have hkk : (l.toNat + (h.toNat - l.toNat)) * sz ≤ n * sz := Nat.mul_le_mul_right _ (by omega)
          rw [Nat.add_mul] at hkk
          refine .sl hp (fun h0 => ?_) (by omega) (by omega) (by omega) hs' (by omega)
          rw [if_neg (by omega), hA (by omega), add_none, Nat.add_assoc]
        split
        · rename_i q; rw [if_pos q] at hfin; exact hfin
        · rename_i q; rw [if_neg q] at hfin; exact hfin
      | some y =>
        have em' : optInt ev c amx = some m := by
          simp only [trO, Option.map_eq_some_iff] at hmx; obtain ⟨ay, _, rfl⟩ := hmx; exact em
        have hb := run_bounds (P := P) (w := w) hr hρ (isS := true) hlo hhi hmx el eh em' b0 b1 b2 (by omega) b4
        refine gives_value hr (run _ _ _ _ _ _ e' hb) ?_
        simp only [Option.isNone_some, Bool.false_eq_true, if_false]
        have hkk : (l.toNat + (m.toNat - l.toNat)) * sz ≤ n * sz := Nat.mul_le_mul_right _ (by omega)
        rw [Nat.add_mul] at hkk
        have hfin : V w0 φ (.slc id (off + l.toNat * sz) (h.toNat - l.toNat) (m.toNat - l.toNat) sz) (.slice (some (if m.toNat = l.toNat then a else a.add (l.toNat * sz))) (h.toNat - l.toNat) (m.toNat - l.toNat)) := by
          refine .slc hp (fun h0 => ?_) (by omega) (by omega) hs'
          rw [if_neg (by omega), hA (by omega), add_none, Nat.add_assoc]
        split
        · rename_i q; rw [if_pos q] at hfin; exact hfin
        · rename_i q; rw [if_neg q] at hfin; exact hfin
    · cases ha
  · rename_i id off n c sz' he
    rw [he] at kx; obtain ⟨a, p, e', hp, hA, hk, hn, hs'⟩ := kx.slc_inv
    simp only [Option.bind_eq_some_iff] at ha
    obtain ⟨l, el, h, eh, m, em, ha⟩ := ha
    split at ha
    · rename_i hb; cases ha
      obtain ⟨rfl, b0, b1, b2, b3, b4⟩ := hb
      rw [mxn, hin] at b4
      have hb := run_bounds (P := P) (w := w) hr hρ (isS := true) hlo hhi hmx el eh em b0 b1 b2 b3 b4
      refine gives_value hr (run _ _ _ _ _ _ e' hb) ?_
      have hkk : (l.toNat + (m.toNat - l.toNat)) * sz ≤ c * sz := Nat.mul_le_mul_right _ (by omega)
      rw [Nat.add_mul] at hkk
      have hfin : V w0 φ (.slc id (off + l.toNat * sz) (h.toNat - l.toNat) (m.toNat - l.toNat) sz) (.slice (some (if m.toNat = l.toNat then a else a.add (l.toNat * sz))) (h.toNat - l.toNat) (m.toNat - l.toNat)) := by
        refine .slc hp (fun h0 => ?_) (by omega) (by omega) hs'
        rw [if_neg (by omega), hA (by omega), add_none, Nat.add_assoc]
      split
      · rename_i q; rw [if_pos q] at hfin; exact hfin
      · rename_i q; rw [if_neg q] at hfin; exact hfin
    · cases ha
  · cases ha

theorem ok_slicex {t e : TypeId} {x lo hi : Operand} {alo ahi : AX} {ax : AX} {sz : Nat} (ho : o.op = .slice t x (some lo) (some hi) none) (hu : P.underlying t = some (.slice e)) (hsz : szOf P e = some sz)
    (hx : tr x = some ax) (hlo : tr lo = some alo) (hhi : tr hi = some ahi)
    (ha : aop cf S ev (.slicex sz ax alo ahi) = some (v, S')) : Gives w0 φ S' v ((execOp ρ o).run P w) := by
  have kx := hρ _ _ hx
  have hs := run_size (w := w) hsz
  simp only [aop] at ha
  split at ha
  · rename_i id off n sz' kl l kh h he hel heh
    rw [he] at kx
    obtain ⟨a, c, p, e', hp, hA, ht, hc, hn, hs', hk⟩ := kx.sl_inv
    split at ha
    · rename_i cs hS
      split at ha
      · rename_i hb; obtain ⟨rfl, b0, b1, b2⟩ := hb; cases ha
        obtain ⟨hto, _⟩ := hr.obj _ _ _ hp hS
        have hhc : h.toNat ≤ c := by
          have : h.toNat * sz ≤ c * sz := by omega
          exact Nat.le_of_mul_le_mul_right this hs'
        have hb := run_bounds (P := P) (w := w) hr hρ (isS := true) (len := n) (cap := c) (m := c) (l := l) (h := h) (lo := some lo) (alo := some alo) (hi := some hi) (ahi := some ahi) (by simp only [trO, hlo, Option.map_some]) (by simp only [trO, hhi, Option.map_some]) (mx := none) (amx := none) rfl
          (by simp only [optInt, hel]) (by simp only [optInt, heh]) rfl b0 b1 (by omega) (by omega) (.inl rfl)
        have hb' : (Instr.sliceBounds true n c (some (ρ lo)) (some (ρ hi)) none).run P w = .ok (l.toNat, h.toNat, c) w := by simpa using hb
        have hl : l.toNat ≤ c := by omega
        have e1 : (l.toNat + (c - l.toNat)) * sz = c * sz := by rw [show l.toNat + (c - l.toNat) = c by omega]
        rw [Nat.add_mul] at e1
        have e2 : (l.toNat + (h.toNat - l.toNat)) * sz = h.toNat * sz := by rw [show l.toNat + (h.toNat - l.toNat) = h.toNat by omega]
        rw [Nat.add_mul] at e2
        have hfin : V w0 φ (.sl id (off + l.toNat * sz) (h.toNat - l.toNat) sz) (.slice (some (if c = l.toNat then a else a.add (l.toNat * sz))) (h.toNat - l.toNat) (c - l.toNat)) := by
          refine .sl hp (fun h0 => ?_) (by omega) (by omega) (by omega) hs' (by omega)
          rw [if_neg (by omega), hA (by omega), add_none, Nat.add_assoc]
        refine gives_value hr (cv := .slice (if c = l.toNat then some a else (some a).map (·.add (l.toNat * sz))) (h.toNat - l.toNat) (c - l.toNat)) ?_ ?_
        · simp only [execOp, ho, Instr.sliceAt, Sem.run_bind, run_underlying hu, Result.andThen_ok, Instr.slice, e', hs.1, Option.map_some, Option.map_none, hb', Sem.run_pure, pure_bind]
        · split
          · rename_i q; rw [if_pos q] at hfin; exact hfin
          · rename_i q; rw [if_neg q] at hfin; exact hfin
      · cases ha
    · cases ha
  · cases ha

theorem run_getMap {r : Nat} {es : Array MapEntry} {clk : Nat} (h : w.heap[r]? = some (.map es clk)) : (getObj r).run P w = .ok (.map es clk) w := by
  exact MapKept.run_getObj_map h

theorem ok_mlen {c : Call} {x : Operand} {t : TypeId} (ho : o.op = .call c) (hcl : c.callee = .builtin .len) (hcx : c.args.toList = [x]) (ht : c.argTypes[0]? = some t) {k e : TypeId} (hu : P.underlying t = some (.map k e)) {ax : AX} (hx : tr x = some ax)
    (ha : aop cf S ev (.mlen ax) = some (v, S')) : Gives w0 φ S' v ((execOp ρ o).run P w) := by
  have kx := hρ _ _ hx
  have run : ∀ r, (Builtin.len_ c.argTypes o.type #[ρ x]).run P w = .ok r w → (execOp ρ o).run P w = .ok (.value r) w := fun r hr' => by
    obtain ⟨cs, hcs⟩ := call_builtin (P := P) hr hρ ho hcl (vs := [ρ x]) (by rw [hcx]; rfl)
    rw [hcs]; simp [builtin, hr']
  simp only [aop] at ha
  split at ha
  · rename_i he
    rw [he] at kx
    have e' : ρ x = .map none := by generalize ρ x = q at kx; cases kx; rfl
    cases ha
    refine gives_value hr (run (.int .i64 0) ?_) (.int _ _)
    simp [Builtin.len_, ht, e', run_underlying hu, goInt]
  · rename_i id he
    split at ha
    · rename_i es hS
      cases ha
      rw [he] at kx
      obtain ⟨p, hp⟩ := hr.place hS
      obtain ⟨h1, ces, clk, h2, h3, h4⟩ := hr.obj _ _ _ hp hS
      have e' : ρ x = .map (some p.b) := by
        generalize hq : ρ x = q at kx
        cases kx with | map hp' => rw [hp] at hp'; cases hp'; rfl
      refine gives_value hr (run (.int .i64 es.length) ?_) (.int _ _)
      have hg := run_getMap (P := P) hr hρ h2
      simp only [Builtin.len_, ht, e', Sem.run_bind, run_underlying hu, List.getElem?_toArray, List.getElem?_cons_zero, Result.andThen_ok, hg, Sem.run_pure, goInt, h3]
    · cases ha
  · cases ha

end
end Go.Proofs.YtaajlbbooneiiaaDoor.Avm
set_option linter.unusedVariables false
set_option linter.unusedSimpArgs false
set_option linter.unusedSectionVars false
namespace Go.Proofs.YtaajlbbooneiiaaDoor.Avm
open Go.RowKit

def MRel (w0 : World) (φ : Pc) (es : List (AV × AV)) (ces : List MapEntry) : Prop :=
  ces.length = es.length ∧ ∀ (j : Nat) (k v : AV) (e : MapEntry), es[j]? = some (k, v) → ces[j]? = some e → V w0 φ k e.key ∧ V w0 φ v e.val
def KeyD (kk : List Nat) (d : TypeDesc) : Prop := (kk = [0] ∧ ∃ i, d = .int i) ∨ (kk = [1] ∧ d = .string)

theorem keyKind_inv {P : Program} {t : TypeId} {kk : List Nat} (h : keyKind P t = some kk) : ∃ d, P.underlying t = some d ∧ KeyD kk d := by
  unfold keyKind at h
  split at h
  · rename_i k hu; cases h; exact ⟨_, hu, .inl ⟨rfl, _, rfl⟩⟩
  · rename_i hu; cases h; exact ⟨_, hu, .inr ⟨rfl, rfl⟩⟩
  · cases h

section
variable {w0 : World} {φ : Pc}
theorem MRel.cons_inv {k v : AV} {es : List (AV × AV)} {ces : List MapEntry} (h : MRel w0 φ ((k, v) :: es) ces) : ∃ e ces', ces = e :: ces' ∧ V w0 φ k e.key ∧ V w0 φ v e.val ∧ MRel w0 φ es ces' := by
  cases ces with
  | nil => simp [MRel] at h
  | cons e ces =>
    have := h.2 0 k v e rfl rfl
    exact ⟨e, ces, rfl, this.1, this.2, by simpa using h.1, fun j a b x ha hb => h.2 (j + 1) a b x (by simpa using ha) (by simpa using hb)⟩

/-- keys compared -/
theorem sameNow_V {kk : List Nat} {d : TypeDesc} (hd : KeyD kk d) {a b : AV} {ca cb : Value} {r : Bool} (h : keyEq kk a b = some r) (ka : V w0 φ a ca) (kb : V w0 φ b cb) : Instr.sameNow d ca cb = some r ∧ (r = true → cb = ca) ∧ Instr.sameBits 10000 ca ca = true := by
  rcases hd with ⟨rfl, i, rfl⟩ | ⟨rfl, rfl⟩
  · unfold keyEq at h
    split at h
    · rename_i i x j y
      have := ka.int_inv; have := kb.int_inv; subst ca cb
      split at h
      · rename_i hij; subst hij; cases h
        refine ⟨?_, fun e => by rw [of_decide_eq_true e], by simp [Instr.sameBits]⟩
        simp only [Instr.sameNow, if_pos]
        congr 1
      · cases h
    · rename_i q; exact absurd q (by decide)
    · rename_i q; exact absurd q (by simp)
    · cases h
  · unfold keyEq at h
    split at h
    · rename_i q; exact absurd q (by decide)
    · rename_i x y _
      have := ka.str_inv; have := kb.str_inv; subst ca cb
      cases h
      have hb : ((⟨x.toArray⟩ : ByteArray) == ⟨y.toArray⟩) = decide (x = y) := by
        rw [Bool.eq_iff_iff, MapKept.bytes_beq]
        simp
      refine ⟨?_, fun e => by rw [of_decide_eq_true e], by simp [Instr.sameBits, MapKept.bytes_beq]⟩
      simp only [Instr.sameNow, hb]
    · rename_i q; exact absurd q (by simp)
    · cases h

theorem find_rel {kk : List Nat} {d : TypeDesc} (hd : KeyD kk d) {k : AV} {ck : Value} (hk : V w0 φ k ck) (v : AV) : ∀ (es : List (AV × AV)) (ces : List MapEntry) (i : Nat) (r : Option AV), MRel w0 φ es ces → findA kk k es = some r →
    (r = none ∧ Instr.findNow d ck ces i = some none ∧ putA kk k v es = some (es ++ [(k, v)])) ∨
    ∃ (j : Nat) (v' : AV) (e : MapEntry), r = some v' ∧ Instr.findNow d ck ces i = some (some (i + j, e.val)) ∧ ces[j]? = some e ∧ e.key = ck ∧ V w0 φ v' e.val ∧ putA kk k v es = some (es.set j (k, v)) ∧ j < es.length
  | [], ces, i, r, h, hf => by
    have : ces = [] := List.eq_nil_of_length_eq_zero (by simpa using h.1)
    subst this
    cases hf
    exact .inl ⟨rfl, rfl, rfl⟩
  | (k', v') :: es, ces, i, r, h, hf => by
    obtain ⟨e, ces', rfl, h1, h2, h3⟩ := h.cons_inv
    simp only [findA] at hf
    obtain ⟨t, ht, hf⟩ := Option.bind_eq_some_iff.1 hf
    obtain ⟨s1, s2, _⟩ := sameNow_V hd ht hk h1
    cases t with
    | true =>
      simp only [if_true, Option.some.injEq] at hf; subst hf
      exact .inr ⟨0, v', e, rfl, by simp [Instr.findNow, s1], rfl, s2 rfl, h2, by simp [putA, ht], by simp⟩
    | false =>
      simp only [Bool.false_eq_true, if_false] at hf
      rcases find_rel hd hk v es ces' (i + 1) r h3 hf with ⟨rfl, q1, q2⟩ | ⟨j, v'', e', rfl, q1, q2, q3, q4, q5, q6⟩
      · exact .inl ⟨rfl, by simp [Instr.findNow, s1, q1], by simp [putA, ht, q2]⟩
      · exact .inr ⟨j + 1, v'', e', rfl, by simp [Instr.findNow, s1, q1]; omega, by simpa using q2, q3, q4, by simp [putA, ht, q5], by simp; omega⟩

theorem find_of_put {kk : List Nat} {k v : AV} : ∀ {es es' : List (AV × AV)}, putA kk k v es = some es' → ∃ r, findA kk k es = some r
  | [], es', h => ⟨none, rfl⟩
  | (k', v') :: es, es', h => by
    simp only [putA] at h
    obtain ⟨t, ht, h⟩ := Option.bind_eq_some_iff.1 h
    cases t with
    | true => exact ⟨some v', by simp [findA, ht]⟩
    | false =>
      simp only [Bool.false_eq_true, if_false] at h
      obtain ⟨es'', h', _⟩ := Option.map_eq_some_iff.1 h
      obtain ⟨r, hr⟩ := find_of_put h'
      exact ⟨r, by simp [findA, ht, hr]⟩

theorem bits_self {kk : List Nat} {d : TypeDesc} (hk : KeyD kk d) {k : AV} {ck : Value} (h : keyOk kk k = true) (hV : V w0 φ k ck) : Instr.sameBits 10000 ck ck = true := by
  rcases hk with ⟨rfl, i, rfl⟩ | ⟨rfl, rfl⟩
  · cases k <;> simp [keyOk] at h
    rw [hV.int_inv]; simp [Instr.sameBits]
  · cases k <;> simp [keyOk] at h
    rw [hV.str_inv]; simp [Instr.sameBits, MapKept.bytes_beq]

theorem check_V {P : Program} {w : World} {kt : TypeId} {kk : List Nat} {d : TypeDesc} (hd : P.underlying kt = some d) (hk : KeyD kk d) {k : AV} {ck : Value} (h : keyOk kk k = true) (hV : V w0 φ k ck) (e : Bool) : (Instr.checkKey e 10000 kt ck).run P w = .ok () w := by
  have : ∀ n, (Instr.checkKey e (n + 1) kt ck).run P w = .ok () w := fun n => by
    unfold Instr.checkKey
    simp only [Sem.run_bind, run_underlying hd, Result.andThen]
    rcases hk with ⟨rfl, i, rfl⟩ | ⟨rfl, rfl⟩
    · simp
    · simp
  exact this 9999
end

section
variable {P : Program} {w0 w : World} {φ : Pc} {S S' : Store} {ev : AX → AV} {ρ : Operand → Value} {tr : Operand → Option AX} {cf : CallF} {o : Oper} {v : AV}
  (hr : Rel w0 φ S w) (hρ : ∀ x ax, tr x = some ax → V w0 φ (ev ax) (ρ x))
include hr hρ

theorem ok_look {t kt et : TypeId} {m k : Operand} {ok : Bool} (ho : o.op = .lookup t m k ok) (hu : P.underlying t = some (.map kt et)) {kk : List Nat} (hk : keyKind P kt = some kk) {z : AV} (hz : zeroAV P et = some z)
    {am ak : AX} (hm : tr m = some am) (hka : tr k = some ak) (ha : aop cf S ev (.look kk z ok am ak) = some (v, S')) : Gives w0 φ S' v ((execOp ρ o).run P w) := by
  have km := hρ _ _ hm
  have kk' := hρ _ _ hka
  obtain ⟨d, hd, hkd⟩ := keyKind_inv hk
  obtain ⟨zv, hzr, hzc⟩ := run_zeroAV (w := w) hz
  have hzV : V w0 φ z zv := constAV_V hzc
  have out : ∀ (b : Bool) (a : AV) (cv : Value), V w0 φ a cv → V w0 φ (if ok then AV.tup [a, .bool b] else a) (if ok then Value.tuple #[cv, .bool b] else cv) := fun b a cv h => by
    cases ok
    · simpa using h
    · exact .tup (cvs := [cv, .bool b]) rfl (Vs.cons h (.cons (.bool b) .nil)).2
  simp only [aop] at ha
  split at ha
  · rename_i he
    rw [he] at km
    have e' : ρ m = .map none := by generalize ρ m = q at km; cases km; rfl
    split at ha
    · rename_i hko; cases ha
      have hc := check_V (P := P) (w := w) hd hkd hko kk' true
      have := out false z zv hzV
      refine gives_value hr (cv := if ok then Value.tuple #[zv, .bool false] else zv) ?_ this
      have hf : (Instr.findKey kt (ρ k) []).run P w = .ok none w := MapKept.run_findKey hd rfl
      have : (#[] : Array MapEntry).toList = [] := rfl
      simp only [execOp, ho, Instr.lookup, Sem.run_bind, run_underlying hu, e', Result.andThen_ok, Sem.run_pure, this]
      have h0 : (#[] : Array MapEntry).isEmpty = true := rfl
      rw [h0, hc]
      simp only [Result.andThen_ok, Sem.run_bind, hf, hzr, Sem.run_pure]
    · cases ha
  · rename_i id he
    split at ha
    · rename_i es hS
      rw [he] at km
      obtain ⟨p, hp⟩ := hr.place hS
      obtain ⟨h1, ces, clk, h2, h3, h4⟩ := hr.obj _ _ _ hp hS
      have e' : ρ m = .map (some p.b) := by
        generalize ρ m = q at km
        cases km with | map hp' => rw [hp] at hp'; cases hp'; rfl
      split at ha
      · rename_i hko
        obtain ⟨r, hfa, hh⟩ := Option.map_eq_some_iff.1 ha
        have hc := check_V (P := P) (w := w) hd hkd hko kk' ces.isEmpty
        have hg := run_getMap (P := P) hr hρ h2
        have hmr : MRel w0 φ es ces.toList := ⟨by simpa using h3, fun j a b e x y => h4 j a b e x (by simpa using y)⟩
        have hrun : ∀ fr, (Instr.findKey kt (ρ k) ces.toList).run P w = .ok fr w → ∀ cv b, (match fr with | some (_, u) => u = cv ∧ b = true | none => zv = cv ∧ b = false) →
            (execOp ρ o).run P w = .ok (.value (if ok then Value.tuple #[cv, .bool b] else cv)) w := fun fr hf cv b hfr => by
          simp only [execOp, ho, Instr.lookup, Sem.run_bind, run_underlying hu, e', Result.andThen_ok, Sem.run_pure, hg, hc, hf]
          cases fr with
          | none => obtain ⟨rfl, rfl⟩ := hfr; simp only [Sem.run_bind, hzr, Result.andThen_ok, Sem.run_pure]
          | some q => obtain ⟨i, u⟩ := q; obtain ⟨rfl, rfl⟩ := hfr; simp only [pure_bind, Sem.run_pure, Result.andThen_ok]
        rcases find_rel hkd kk' .undef es ces.toList 0 r hmr hfa with ⟨rfl, q1, _⟩ | ⟨j, v', e, rfl, q1, q2, q3, q4, _⟩
        · have hf := MapKept.run_findKey (P := P) (w := w) hd q1
          have := hrun _ hf zv false ⟨rfl, rfl⟩
          simp only [Prod.mk.injEq] at hh
          have hv : v = (if ok then AV.tup [z, .bool false] else z) ∧ S' = S := by cases ok <;> simp_all
          obtain ⟨rfl, rfl⟩ := hv
          exact gives_value hr this (out false z zv hzV)
        · have hf := MapKept.run_findKey (P := P) (w := w) hd q1
          have := hrun _ hf e.val true ⟨rfl, rfl⟩
          have hv : v = (if ok then AV.tup [v', .bool true] else v') ∧ S' = S := by cases ok <;> simp_all
          obtain ⟨rfl, rfl⟩ := hv
          exact gives_value hr this (out true v' e.val q4)
      · cases ha
    · cases ha
  · cases ha

theorem ok_mapu {t kt et : TypeId} {m k y : Operand} (ho : o.op = .mapUpdate t m k y) (hu : P.underlying t = some (.map kt et)) {kk : List Nat} (hk : keyKind P kt = some kk)
    {am ak ay : AX} (hm : tr m = some am) (hka : tr k = some ak) (hy : tr y = some ay) (ha : aop cf S ev (.mapu kk am ak ay) = some (v, S')) : Gives w0 φ S' v ((execOp ρ o).run P w) := by
  have km := hρ _ _ hm
  have kk' := hρ _ _ hka
  have kv := hρ _ _ hy
  obtain ⟨d, hd, hkd⟩ := keyKind_inv hk
  simp only [aop] at ha
  split at ha
  · rename_i id he
    split at ha
    · rename_i es hS
      rw [he] at km
      obtain ⟨p, hp⟩ := hr.place hS
      obtain ⟨h1, ces, clk, h2, h3, h4⟩ := hr.obj _ _ _ hp hS
      have e' : ρ m = .map (some p.b) := by
        generalize ρ m = q at km
        cases km with | map hp' => rw [hp] at hp'; cases hp'; rfl
      split at ha
      · rename_i hko
        obtain ⟨es', hpa, hh⟩ := Option.map_eq_some_iff.1 ha
        cases hh
        obtain ⟨r, hfa⟩ := find_of_put hpa
        have hc := check_V (P := P) (w := w) hd hkd hko kk' false
        have hg := run_getMap (P := P) hr hρ h2
        have hmr : MRel w0 φ es ces.toList := ⟨by simpa using h3, fun j a b e x y => h4 j a b e x (by simpa using y)⟩
        have grown : ∀ o', w.grownBy { w with heap := w.heap.setIfInBounds p.b o' } (some p.b) := fun o' => ⟨rfl, rfl, rfl, by simp, fun i hi hne => (MapKept.heap_set h2).2 i (fun e => hne (by rw [e]))⟩
        have fin : ∀ ces' clk', (Instr.mapUpdate t (ρ m) (ρ k) (ρ y)).run P w = .ok () { w with heap := w.heap.setIfInBounds p.b (.map ces' clk') } → ces'.size = es'.length →
            (∀ (j : Nat) (a b : AV) (e : MapEntry), es'[j]? = some (a, b) → ces'[j]? = some e → V w0 φ a e.key ∧ V w0 φ b e.val) → Gives w0 φ (S.set id (.map es')) .undef ((execOp ρ o).run P w) := fun ces' clk' hrun hsz hall =>
          ⟨φ, undef, _, .inr ⟨by simp [execOp, ho, hrun], rfl⟩, .refl _, hr.set hp hS trivial (grown _) ⟨h1, ces', clk', (MapKept.heap_set h2).1, hsz, hall⟩, .undef⟩
        rcases find_rel hkd kk' (ev ay) es ces.toList 0 r hmr hfa with ⟨rfl, q1, q2⟩ | ⟨j, v', e, rfl, q1, q2, q3, q4, q5, q6⟩
        · have hf := MapKept.run_findKey (P := P) (w := w) hd q1
          have hset := MapKept.run_setObj_map (P := P) (.map (ces.push ⟨ρ k, ρ y, clk⟩) (clk + 1)) h2
          rw [q2] at hpa; cases hpa
          refine fin (ces.push ⟨ρ k, ρ y, clk⟩) (clk + 1) ?_ (by simp [h3]) fun j a b e ha hb => ?_
          · simp only [Instr.mapUpdate, Sem.run_bind, run_underlying hu, e', Result.andThen_ok, hg, hc, hf, hset]
          · rw [List.getElem?_append] at ha
            rw [Array.getElem?_push] at hb
            by_cases hj : j < es.length
            · rw [if_pos hj] at ha; rw [if_neg (by omega)] at hb; exact h4 j a b e ha hb
            · rw [if_neg hj] at ha
              have : j = es.length := by
                have := (List.getElem?_eq_some_iff.1 ha).1; simp at this; omega
              subst this
              rw [if_pos (by omega)] at hb
              simp at ha; cases hb; obtain ⟨rfl, rfl⟩ := ha
              exact ⟨kk', kv⟩
        · have hf := MapKept.run_findKey (P := P) (w := w) hd q1
          rw [q5] at hpa; cases hpa
          have q2' : ces[j]? = some e := by simpa using q2
          have hstay : (Instr.keyThatStays (ρ k) (ρ k)).run P w = .ok (ρ k) w := by
            have := bits_self hkd hko kk'
            simp [Instr.keyThatStays, this]
          have hset := MapKept.run_setObj_map (P := P) (.map (ces.modify j fun e => { e with key := ρ k, val := ρ y }) clk) h2
          refine fin (ces.modify j fun e => { e with key := ρ k, val := ρ y }) clk ?_ (by simp [h3]) fun i a b x ha hb => ?_
          · simp only [Instr.mapUpdate, Sem.run_bind, run_underlying hu, e', Result.andThen_ok, hg, hc, hf, Nat.zero_add, q2', Option.map_some, Option.getD_some, q3, hstay, hset]
          · rw [Array.getElem?_modify] at hb
            by_cases hij : j = i
            · subst hij
              rw [List.getElem?_set_self q6] at ha; cases ha
              rw [if_pos rfl, q2'] at hb; cases hb
              exact ⟨kk', kv⟩
            · rw [List.getElem?_set_ne hij] at ha
              rw [if_neg hij] at hb; exact h4 i a b x ha hb
      · cases ha
    · cases ha
  · cases ha

theorem ok_mkmap {t : TypeId} (ho : o.op = .makeMap t none) (ha : aop cf S ev .mkmap = some (v, S')) : Gives w0 φ S' v ((execOp ρ o).run P w) := by
  simp only [aop, Option.some.injEq, Prod.mk.injEq] at ha
  obtain ⟨rfl, rfl⟩ := ha
  refine ⟨φ.snoc ⟨w.heap.size, 0, 0, 0⟩, .map (some w.heap.size), w.alloc (.map #[] 0), .inl ?_, .snoc _ _, ?_, .map (p := ⟨w.heap.size, 0, 0, 0⟩) ?_⟩
  · simp [execOp, ho, Instr.makeMap]
  · refine (hr.grown (World.grownBy_alloc w _ _)).push (fun i q y hq hy ly => ?_) (hr.freshZ (Nat.le_refl _)) ?_
    · have := ((hr.obj i q y hq hy).lt ly).2; simp; omega
    · exact ⟨hr.below.size, #[], 0, heap_alloc_new w _, rfl, fun j k v e h => by simp at h⟩
  · rw [← hr.len]; simp [Pc.snoc]


theorem fold_max {k : IntKind} {ws : List AV} : ∀ {cws : List Value} {x : Int} {v : AV}, mxA true (.int k x) ws = some v → Vs w0 φ ws cws → ∃ r, (cws.foldlM Builtin.max2 (Value.int k x)).run P w = .ok (.int k r) w ∧ v = .int k r := by
  induction ws with
  | nil => intro cws x v h k'; cases h; have : cws = [] := List.eq_nil_of_length_eq_zero k'.1.symm; subst this; exact ⟨x, by simp, rfl⟩
  | cons a ws ih =>
    intro cws x v h k'
    obtain ⟨cv, cws', rfl, h1, h2⟩ := k'.cons_inv
    cases a <;> simp only [mxA, reduceCtorEq] at h
    obtain ⟨r, q1, q2⟩ := ih h h2
    refine ⟨r, ?_, q2⟩
    rw [h1.int_inv]
    simp only [if_true] at q1
    simp only [List.foldlM_cons, Sem.run_bind, Builtin.max2, Sem.run_pure, Result.andThen_ok, q1]
theorem fold_min {k : IntKind} {ws : List AV} : ∀ {cws : List Value} {x : Int} {v : AV}, mxA false (.int k x) ws = some v → Vs w0 φ ws cws → ∃ r, (cws.foldlM Builtin.min2 (Value.int k x)).run P w = .ok (.int k r) w ∧ v = .int k r := by
  induction ws with
  | nil => intro cws x v h k'; cases h; have : cws = [] := List.eq_nil_of_length_eq_zero k'.1.symm; subst this; exact ⟨x, by simp, rfl⟩
  | cons a ws ih =>
    intro cws x v h k'
    obtain ⟨cv, cws', rfl, h1, h2⟩ := k'.cons_inv
    cases a <;> simp only [mxA, reduceCtorEq] at h
    obtain ⟨r, q1, q2⟩ := ih h h2
    refine ⟨r, ?_, q2⟩
    rw [h1.int_inv]
    simp only [Bool.false_eq_true, if_false] at q1
    simp only [List.foldlM_cons, Sem.run_bind, Builtin.min2, Sem.run_pure, Result.andThen_ok, q1]

theorem ok_mx {c : Call} {gt : Bool} (ho : o.op = .call c) (hcl : c.callee = .builtin (if gt then .max else .min)) {xas : List AX} (hevs : Vs w0 φ (evs ev xas) (c.args.toList.map ρ))
    (ha : aop cf S ev (.mx gt xas) = some (v, S')) : Gives w0 φ S' v ((execOp ρ o).run P w) := by
  simp only [aop] at ha
  split at ha
  · rename_i a ws he
    obtain ⟨v', hm, hh⟩ := Option.map_eq_some_iff.1 ha; cases hh
    rw [he] at hevs
    obtain ⟨cv, cws, e1, h1, h2⟩ := hevs.cons_inv
    have hint : ∃ k x, a = .int k x ∨ (ws = [] ∧ v = a) := by
      cases ws with
      | nil => exact ⟨.i64, 0, .inr ⟨rfl, by cases hm; rfl⟩⟩
      | cons b ws => cases a <;> first | exact ⟨_, _, .inl rfl⟩ | (cases b <;> simp [mxA] at hm)
    obtain ⟨cs, hcs⟩ := call_builtin (P := P) hr hρ ho hcl e1
    obtain ⟨k, x, rfl | ⟨rfl, rfl⟩⟩ := hint
    · have e2 := h1.int_inv; subst e2
      cases gt with
      | true =>
        obtain ⟨r, q1, rfl⟩ := fold_max (P := P) (w := w) hr hρ hm h2
        refine gives_value hr ?_ (.int _ _)
        rw [hcs]; simp [builtin, Builtin.max_, q1]
      | false =>
        obtain ⟨r, q1, rfl⟩ := fold_min (P := P) (w := w) hr hρ hm h2
        refine gives_value hr ?_ (.int _ _)
        rw [hcs]; simp [builtin, Builtin.min_, q1]
    · have : cws = [] := List.eq_nil_of_length_eq_zero h2.1.symm
      subst this
      refine gives_value hr ?_ h1
      rw [hcs]; cases gt <;> simp [builtin, Builtin.min_, Builtin.max_]
  · cases ha

end

section fills
theorem fold_set (off : Nat) : ∀ (vs : List Value) (k : Nat) (cs : Array Value), off + k + vs.length ≤ cs.size →
    ((vs.zipIdx k).foldl (fun cs (p : Value × Nat) => cs.setIfInBounds (off + p.2) p.1) cs).toList = cs.toList.take (off + k) ++ vs ++ cs.toList.drop (off + k + vs.length)
  | [], k, cs, h => by simp
  | v :: vs, k, cs, h => by
    simp only [List.length_cons] at h
    rw [List.zipIdx_cons, List.foldl_cons, fold_set off vs (k + 1) _ (by simp; omega)]
    simp only [Array.toList_setIfInBounds, List.length_cons]
    have hlo : off + k < cs.toList.length := by simp; omega
    rw [show off + (k + 1) = off + k + 1 by omega, List.take_succ_eq_append_getElem (by simpa using hlo), List.take_set_of_le (Nat.le_refl _), List.getElem_set_self, List.drop_set_of_lt (by omega)]
    simp [List.append_assoc, Nat.add_assoc, Nat.add_comm 1]

variable {w0 : World} {φ : Pc} {ev : AX → AV} {ρ : Operand → Value} {tr : Operand → Option AX} (hρ : ∀ x ax, tr x = some ax → V w0 φ (ev ax) (ρ x))
include hρ
theorem fill_rel {place pl : Nat → Option (Nat × Nat)} (hpl : ∀ i q, pl i = some q → place i = some q) : ∀ (ps : List (Nat × Operand)) (aps : List (Nat × Nat × AX)) (cells cs : List AV) (cc : Array Value),
    partsOf tr pl ps = some aps → fillA ev cells aps = some cs → Vc w0 φ cells cc.toList → ∃ ccs, Instr.fill place cc (ps.map fun (i, x) => (i, ρ x)) = some ccs ∧ Vc w0 φ cs ccs.toList
  | [], aps, cells, cs, cc, h1, h2, h3 => by
    cases h1; cases h2; exact ⟨cc, rfl, h3⟩
  | (i, x) :: ps, aps, cells, cs, cc, h1, h2, h3 => by
    simp only [partsOf, Option.bind_eq_some_iff] at h1
    obtain ⟨⟨off, n⟩, hp, ax, hx, h1⟩ := h1
    split at h1
    · rename_i hn
      obtain ⟨aps', h4, rfl⟩ := Option.map_eq_some_iff.1 h1
      simp only [fillA] at h2
      split at h2
      · rename_i hb
        have hne : (ev ax).cells ≠ [] := fun e => by rw [e] at hb; simp at hb; omega
        have hv := (hρ _ _ hx).cells hne
        have hlen : (ρ x).cells.size = n := by have := hv.1.1; simp at this; omega
        have hcl := h3.1.1
        simp only [Array.length_toList] at hcl
        have hfold := fold_set off (ρ x).cells.toList 0 cc (by simp; omega)
        have hl2 : (ρ x).cells.toList.length = n := by simpa using hlen
        rw [hl2] at hfold
        simp only [Nat.add_zero] at hfold
        have hV : Vc w0 φ (cells.take off ++ (ev ax).cells ++ cells.drop (off + n)) (cc.toList.take off ++ (ρ x).cells.toList ++ cc.toList.drop (off + n)) :=
          ((h3.take off).append hv).append (h3.drop _)
        rw [← hfold] at hV
        obtain ⟨ccs, q1, q2⟩ := fill_rel hpl ps aps' _ cs _ h4 h2 hV
        refine ⟨ccs, ?_, q2⟩
        simp only [List.map_cons, Instr.fill, hpl _ _ hp]
        rw [if_neg (by simp [hlen]; omega)]
        rw [← q1]
        congr 1
        rw [← Array.foldl_toList, Array.toList_zipIdx]
      · cases h2
    · cases h1
end fills

section
variable {P : Program} {w0 w : World} {φ : Pc} {S S' : Store} {ev : AX → AV} {ρ : Operand → Value} {tr : Operand → Option AX} {cf : CallF} {o : Oper} {v : AV}
  (hr : Rel w0 φ S w) (hρ : ∀ x ax, tr x = some ax → V w0 φ (ev ax) (ρ x))

theorem places_eq {P : Program} : ∀ (fs : List Field) (pl : List (Nat × Nat)), places P fs = some pl → (fs.mapM fun f => (P.info? f.type).map fun i => (f.offset, i.size)) = some pl
  | [], pl, h => by cases h; rfl
  | f :: fs, pl, h => by
    simp only [places, Option.bind_eq_some_iff, Option.map_eq_some_iff] at h
    obtain ⟨i, hi, pl', h', rfl⟩ := h
    simp [List.mapM_cons, hi, places_eq fs pl' h']

theorem zero_info {t : TypeId} {cs : List AV} (h : zeroCells P t = some cs) : ∃ i z, P.info? t = some i ∧ i.zero = some z ∧ Vc w0 φ cs z.cells.toList := by
  unfold zeroCells at h
  simp only [Option.bind_eq_some_iff] at h
  obtain ⟨i, hi, z, hz, hc⟩ := h
  exact ⟨i, z, hi, hz, constSs_V hc⟩
theorem sz_info {t : TypeId} {n : Nat} (h : szOf P t = some n) : ∃ i, P.info? t = some i ∧ i.size = n ∧ 0 < n := by
  unfold szOf at h
  simp only [Option.bind_eq_some_iff] at h
  obtain ⟨i, hi, h⟩ := h
  split at h
  · cases h; exact ⟨i, hi, rfl, by assumption⟩
  · cases h

include hr hρ
theorem ok_build {t : TypeId} {ps : Array (Nat × Operand)} (ho : o.op = .build t ps) {ao : AOp} (hc : compOp P tr o.op = some ao) (ha : aop cf S ev ao = some (v, S')) : Gives w0 φ S' v ((execOp ρ o).run P w) := by
  rw [ho] at hc
  have run : ∀ cells, P.built t (ps.map fun (i, x) => (i, ρ x)).toList = some cells → (execOp ρ o).run P w = .ok (.value (.agg cells)) w := fun cells h => by
    have := run_build w t _ cells h
    simp only [execOp, ho, Sem.run_bind, this, Result.andThen_ok, Sem.run_pure]
  have map_eq : (ps.map fun (p : Nat × Operand) => (p.1, ρ p.2)).toList = ps.toList.map fun (p : Nat × Operand) => (p.1, ρ p.2) := by simp
  simp only [compOp] at hc
  split at hc
  · rename_i fs hu
    simp only [Option.bind_eq_some_iff, Option.map_eq_some_iff] at hc
    obtain ⟨z, hz, pl, hpl, aps, hps, rfl⟩ := hc
    obtain ⟨cs, hf, hh⟩ := Option.map_eq_some_iff.1 ha; cases hh
    obtain ⟨i, zv, hi, hzv, hV⟩ := zero_info (w0 := w0) (φ := φ) hz
    obtain ⟨ccs, q1, q2⟩ := fill_rel hρ (place := (pl.toArray[·]?)) (pl := (pl[·]?)) (fun i q h => by simpa using h) _ _ _ _ _ hps hf hV
    refine gives_value hr (run ccs ?_) (V.mkAgg q2)
    rw [map_eq]
    simp only [Program.built, hi, hu, hzv, places_eq _ _ hpl]
    exact q1
  · rename_i len e hu
    simp only [Option.bind_eq_some_iff, Option.map_eq_some_iff] at hc
    obtain ⟨z, hz, sz, hsz, aps, hps, rfl⟩ := hc
    obtain ⟨cs, hf, hh⟩ := Option.map_eq_some_iff.1 ha; cases hh
    obtain ⟨i, zv, hi, hzv, hV⟩ := zero_info (w0 := w0) (φ := φ) hz
    obtain ⟨ie, hie, rfl, _⟩ := sz_info hsz
    obtain ⟨ccs, q1, q2⟩ := fill_rel hρ (place := fun i => some (i * ie.size, ie.size)) (pl := fun i => some (i * ie.size, ie.size)) (fun i q h => h) _ _ _ _ _ hps hf hV
    refine gives_value hr (run ccs ?_) (V.mkAgg q2)
    rw [map_eq]
    simp only [Program.built, hi, hu, hzv, hie]
    exact q1
  · cases hc

end
end Go.Proofs.YtaajlbbooneiiaaDoor.Avm
set_option linter.unusedVariables false
set_option linter.unusedSimpArgs false
set_option linter.unusedSectionVars false
namespace Go.Proofs.YtaajlbbooneiiaaDoor.Avm
open Go.RowKit

/-- the same cells over and over -/
theorem made_flat (z : Array Value) (hz : 0 < z.size) : ∀ n, (madeCells z (n * z.size)).toList = (List.replicate n z.toList).flatten
  | 0 => by simp [madeCells]
  | n + 1 => by
    rw [List.replicate_succ', List.flatten_append, ← made_flat z hz n]
    simp only [madeCells, Array.toList_map, Array.toList_range, Nat.add_mul, Nat.one_mul, List.range_add, List.map_append, List.flatten_cons, List.flatten_nil, List.append_nil, List.map_map]
    congr 1
    apply List.ext_getElem?
    intro i
    simp only [List.getElem?_map]
    by_cases h : i < z.size
    · rw [List.getElem?_range h]
      simp only [Option.map_some, Function.comp]
      have : (n * z.size + i) % z.size = i := by rw [Nat.add_comm, Nat.add_mul_mod_self_right]; exact Nat.mod_eq_of_lt h
      rw [this]
      simp [h]
    · rw [List.getElem?_eq_none (by simpa using h), List.getElem?_eq_none (by simpa using h)]; rfl
theorem zeroCells_made (z : Array Value) (n : Nat) : Builtin.zeroCells z n = madeCells z (n * z.size) := rfl
theorem repCells_eq (z : List AV) : ∀ n, repCells z n = (List.replicate n z).flatten
  | 0 => rfl
  | n + 1 => by simp [repCells, List.replicate_succ, repCells_eq z n]
theorem rep_V {w0 : World} {φ : Pc} {z : List AV} {cz : List Value} (h : Vc w0 φ z cz) : ∀ n, Vc w0 φ (List.replicate n z).flatten (List.replicate n cz).flatten
  | 0 => .nil
  | n + 1 => by simp only [List.replicate_succ, List.flatten_cons]; exact h.append (rep_V h n)
theorem bytes_V {w0 : World} {φ : Pc} : ∀ (s : List UInt8), Vc w0 φ (s.map fun c => AV.int .u8 c.toNat) (s.map fun c => Value.int .u8 c.toNat)
  | [] => .nil
  | c :: s => .cons (.int _ _) rfl (bytes_V s)
theorem Vc.ones {w0 : World} {φ : Pc} {cs : List AV} {cvs : List Value} (h : Vc w0 φ cs cvs) : ∀ u ∈ cvs, u.oneCell' = true := h.2

section
variable {P : Program} {w0 w : World} {φ : Pc} {S S' : Store} {ev : AX → AV} {ρ : Operand → Value} {tr : Operand → Option AX} {cf : CallF} {o : Oper} {v : AV}
  (hr : Rel w0 φ S w) (hρ : ∀ x ax, tr x = some ax → V w0 φ (ev ax) (ρ x))

theorem drew_grown (w : World) : w.grownBy w.drew none := ⟨rfl, rfl, rfl, Nat.le_refl _, fun _ _ _ => rfl⟩

theorem last_place (hr : Rel w0 φ S w) (p : Pl) : (φ.snoc p).pl[S.length]? = some p := by rw [← hr.len]; simp [Pc.snoc]

include hr hρ

theorem ok_new {e : TypeId} (ho : o.op = .alloc e) {ao : AOp} (hc : compOp P tr o.op = some ao) (ha : aop cf S ev ao = some (v, S')) : Gives w0 φ S' v ((execOp ρ o).run P w) := by
  rw [ho] at hc
  obtain ⟨cs, hz, rfl⟩ := Option.map_eq_some_iff.1 hc
  simp only [aop, Option.some.injEq, Prod.mk.injEq] at ha
  obtain ⟨rfl, rfl⟩ := ha
  obtain ⟨z, hzr, hzc⟩ := run_zero (w := w) hz
  have hal := hr.alloc (constSs_V (w0 := w0) (φ := φ) hzc) e 0 []
  simp only [List.append_nil, List.length_nil, Nat.add_zero, Array.toArray_toList] at hal
  refine ⟨_, .pointer (some ⟨w.heap.size, 0, none⟩), _, .inl ?_, .snoc _ _, hal, ?_⟩
  · simp [execOp, ho, Instr.alloc, hzr, newVar, newRow]
  · exact V.ptr (last_place hr _)

theorem ok_box {e : TypeId} {x : Operand} (ho : o.op = .box e x) {ao : AOp} (hc : compOp P tr o.op = some ao) (ha : aop cf S ev ao = some (v, S')) : Gives w0 φ S' v ((execOp ρ o).run P w) := by
  rw [ho] at hc
  simp only [compOp, Option.bind_eq_some_iff, Option.map_eq_some_iff] at hc
  obtain ⟨n, hn, ax, hx, rfl⟩ := hc
  simp only [aop] at ha
  split at ha
  · rename_i hl
    simp only [Option.some.injEq, Prod.mk.injEq] at ha
    obtain ⟨rfl, rfl⟩ := ha
    have hpos := (run_size (P := P) (w := w) hn).2
    have hV := (hρ _ _ hx).cells (fun e' => by rw [e'] at hl; simp at hl; omega)
    have hal := hr.alloc hV e 0 []
    simp only [List.append_nil, List.length_nil, Nat.add_zero, Array.toArray_toList] at hal
    refine ⟨_, .pointer (some ⟨w.heap.size, 0, none⟩), _, .inl ?_, .snoc _ _, hal, ?_⟩
    · simp [execOp, ho, Instr.box, newVar, newRow]
    · exact V.ptr (last_place hr _)
  · cases ha

theorem ok_lit {t : TypeId} {len : Nat} {ps : Array (Nat × Operand)} (ho : o.op = .buildSlice t len ps) {ao : AOp} (hc : compOp P tr o.op = some ao) (ha : aop cf S ev ao = some (v, S')) : Gives w0 φ S' v ((execOp ρ o).run P w) := by
  rw [ho] at hc
  simp only [compOp] at hc
  split at hc
  · rename_i e hu
    simp only [Option.bind_eq_some_iff] at hc
    obtain ⟨z, hz, sz, hsz, hc⟩ := hc
    split at hc
    · rename_i hb
      obtain ⟨aps, hps, rfl⟩ := Option.map_eq_some_iff.1 hc
      simp only [aop] at ha
      split at ha
      · obtain ⟨cs, hf, hh⟩ := Option.map_eq_some_iff.1 ha; cases hh
        obtain ⟨zv, hzr, hzc⟩ := run_zero (w := w) hz
        have hzV := constSs_V (w0 := w0) (φ := φ) hzc
        have hzl : zv.cells.size = sz := by have := hzV.1.1; simp at this; omega
        obtain ⟨hsr, hsp⟩ := run_size (P := P) (w := w) hsz
        have hmade : Vc w0 φ (repCells z len) (madeCells zv.cells (len * sz)).toList := by
          rw [repCells_eq, ← hzl, made_flat _ (by omega)]; exact rep_V hzV len
        obtain ⟨ccs, q1, q2⟩ := fill_rel hρ (place := fun i => some (i * sz, sz)) (pl := fun i => some (i * sz, sz)) (fun i q h => h) _ _ _ _ _ hps hf hmade
        have hal := hr.alloc q2 e 0 []
        simp only [List.append_nil, List.length_nil, Nat.add_zero, Array.toArray_toList] at hal
        have hcl : ccs.size = cs.length := by have := q2.1.1; simp at this; omega
        have hcs : cs.length = len * sz := by
          have : ∀ (aps : List (Nat × Nat × AX)) (a b : List AV), fillA ev a aps = some b → b.length = a.length := by
            intro aps
            induction aps with
            | nil => intro a b h; cases h; rfl
            | cons p aps ih =>
              intro a b h
              obtain ⟨off, n, x⟩ := p
              simp only [fillA] at h
              split at h
              · rename_i hbb; rw [ih _ _ h]; simp; omega
              · cases h
          rw [this _ _ _ hf, hmade.1.1, Array.length_toList, size_madeCells]
        have map_eq : (ps.map fun (p : Nat × Operand) => (p.1, ρ p.2)).toList = ps.toList.map fun (p : Nat × Operand) => (p.1, ρ p.2) := by simp
        refine ⟨_, .slice (some ⟨w.heap.size, 0, none⟩) len len, _, .inl ?_, .snoc _ _, hal, ?_⟩
        · have hle : ¬ (len * sz > 2 ^ 24) := by have := hb.2; omega
          have q1' : Instr.fill (fun i => some (i * sz, sz)) (madeCells zv.cells (len * sz)) (ps.toList.map fun (p : Nat × Operand) => (p.1, ρ p.2)) = some ccs := q1
          by_cases h0 : len * sz = 0
          · have hm : ∀ f : Nat → Value, (Array.range (len * sz)).map f = #[] := fun f => by simp [h0]
            rw [show madeCells zv.cells (len * sz) = #[] from hm _] at q1'
            simp only [execOp, ho, Instr.buildSlice, Sem.run_bind, run_underlying hu, hsr, Result.andThen_ok, if_neg hle, if_pos h0, hm, map_eq, pure_bind, q1']
            simp [newRow]
          · have hm : (Array.range (len * sz)).map (fun i => zv.cells[i % zv.cells.size]!) = madeCells zv.cells (len * sz) := rfl
            simp only [execOp, ho, Instr.buildSlice, Sem.run_bind, run_underlying hu, hsr, Result.andThen_ok, if_neg hle, if_neg h0, hzr, map_eq, bind_assoc, pure_bind, hm, q1']
            simp [newRow]
        · refine V.sl (p := ⟨w.heap.size, 0, ccs.size, cs.length⟩) (by have := last_place hr (⟨w.heap.size, 0, ccs.size, cs.length⟩ : Pl); simpa using this) (fun _ => rfl) ?_ ?_ (Nat.le_refl _) hsp ?_
          · simp; omega
          · simp; omega
          · simp; omega
      · cases ha
    · cases hc
  · cases hc

theorem ok_litf {t : TypeId} {len : Nat} {ps : Array (Nat × Operand)} (ho : o.op = .buildSlice t len ps) {ao : AOp} (hc : compOp P tr o.op = some ao) (ha : aop cf S ev (frz ao) = some (v, S')) : Gives w0 φ S' v ((execOp ρ o).run P w) := by
  rw [ho] at hc
  simp only [compOp] at hc
  split at hc
  · rename_i e hu
    simp only [Option.bind_eq_some_iff] at hc
    obtain ⟨z, hz, sz, hsz, hc⟩ := hc
    split at hc
    · rename_i hb
      obtain ⟨aps, hps, rfl⟩ := Option.map_eq_some_iff.1 hc
      simp only [frz, aop] at ha
      split at ha
      · obtain ⟨cs, hf, hh⟩ := Option.map_eq_some_iff.1 ha; cases hh
        obtain ⟨zv, hzr, hzc⟩ := run_zero (w := w) hz
        have hzV := constSs_V (w0 := w0) (φ := φ) hzc
        have hzl : zv.cells.size = sz := by have := hzV.1.1; simp at this; omega
        obtain ⟨hsr, hsp⟩ := run_size (P := P) (w := w) hsz
        have hmade : Vc w0 φ (repCells z len) (madeCells zv.cells (len * sz)).toList := by
          rw [repCells_eq, ← hzl, made_flat _ (by omega)]; exact rep_V hzV len
        obtain ⟨ccs, q1, q2⟩ := fill_rel hρ (place := fun i => some (i * sz, sz)) (pl := fun i => some (i * sz, sz)) (fun i q h => h) _ _ _ _ _ hps hf hmade
        have hcl : ccs.size = cs.length := by have := q2.1.1; simp at this; omega
        have hcs : cs.length = len * sz := by
          have : ∀ (aps : List (Nat × Nat × AX)) (a b : List AV), fillA ev a aps = some b → b.length = a.length := by
            intro aps
            induction aps with
            | nil => intro a b h; cases h; rfl
            | cons p aps ih =>
              intro a b h
              obtain ⟨off, n, x⟩ := p
              simp only [fillA] at h
              split at h
              · rename_i hbb; rw [ih _ _ h]; simp; omega
              · cases h
          rw [this _ _ _ hf, hmade.1.1, Array.length_toList, size_madeCells]
        have map_eq : (ps.map fun (p : Nat × Operand) => (p.1, ρ p.2)).toList = ps.toList.map fun (p : Nat × Operand) => (p.1, ρ p.2) := by simp
        obtain ⟨φ', f1, f2, f3⟩ := hr.newF (w' := w.alloc (.cells ccs e)) (World.grownBy_alloc w _ _) q2 (fun j cv hj => by
          rw [World.cell?, heap_alloc_new]; simpa using hj)
        refine ⟨φ', .slice (some ⟨w.heap.size, 0, none⟩) len len, _, .inl ?_, f1, f2, (f3 _ _ (Nat.le_refl _)).1⟩
        · have hle : ¬ (len * sz > 2 ^ 24) := by have := hb.2; omega
          have q1' : Instr.fill (fun i => some (i * sz, sz)) (madeCells zv.cells (len * sz)) (ps.toList.map fun (p : Nat × Operand) => (p.1, ρ p.2)) = some ccs := q1
          by_cases h0 : len * sz = 0
          · have hm : ∀ f : Nat → Value, (Array.range (len * sz)).map f = #[] := fun f => by simp [h0]
            rw [show madeCells zv.cells (len * sz) = #[] from hm _] at q1'
            simp only [execOp, ho, Instr.buildSlice, Sem.run_bind, run_underlying hu, hsr, Result.andThen_ok, if_neg hle, if_pos h0, hm, map_eq, pure_bind, q1']
            simp [newRow]
          · have hm : (Array.range (len * sz)).map (fun i => zv.cells[i % zv.cells.size]!) = madeCells zv.cells (len * sz) := rfl
            simp only [execOp, ho, Instr.buildSlice, Sem.run_bind, run_underlying hu, hsr, Result.andThen_ok, if_neg hle, if_neg h0, hzr, map_eq, bind_assoc, pure_bind, hm, q1']
            simp [newRow]
      · cases ha
    · cases hc
  · cases hc

theorem ok_litn {t : TypeId} {len : Nat} {ps : Array (Nat × Operand)} (ho : o.op = .buildSlice t len ps) {ao : AOp} (hc : compOp P tr o.op = some ao) (ha : aop cf S ev (frzN ao) = some (v, S')) : Gives w0 φ S' v ((execOp ρ o).run P w) := by
  rw [ho] at hc
  simp only [compOp] at hc
  split at hc
  · rename_i e hu
    simp only [Option.bind_eq_some_iff] at hc
    obtain ⟨z, hz, sz, hsz, hc⟩ := hc
    split at hc
    · rename_i hb
      obtain ⟨aps, hps, rfl⟩ := Option.map_eq_some_iff.1 hc
      simp only [frzN, aop] at ha
      split at ha
      · obtain ⟨cs, hf, hh⟩ := Option.map_eq_some_iff.1 ha; cases hh
        obtain ⟨zv, hzr, hzc⟩ := run_zero (w := w) hz
        have hzV := constSs_V (w0 := w0) (φ := φ) hzc
        have hzl : zv.cells.size = sz := by have := hzV.1.1; simp at this; omega
        obtain ⟨hsr, hsp⟩ := run_size (P := P) (w := w) hsz
        have hmade : Vc w0 φ (repCells z len) (madeCells zv.cells (len * sz)).toList := by
          rw [repCells_eq, ← hzl, made_flat _ (by omega)]; exact rep_V hzV len
        obtain ⟨ccs, q1, q2⟩ := fill_rel hρ (place := fun i => some (i * sz, sz)) (pl := fun i => some (i * sz, sz)) (fun i q h => h) _ _ _ _ _ hps hf hmade
        have hcl : ccs.size = cs.length := by have := q2.1.1; simp at this; omega
        have hcs : cs.length = len * sz := by
          have : ∀ (aps : List (Nat × Nat × AX)) (a b : List AV), fillA ev a aps = some b → b.length = a.length := by
            intro aps
            induction aps with
            | nil => intro a b h; cases h; rfl
            | cons p aps ih =>
              intro a b h
              obtain ⟨off, n, x⟩ := p
              simp only [fillA] at h
              split at h
              · rename_i hbb; rw [ih _ _ h]; simp; omega
              · cases h
          rw [this _ _ _ hf, hmade.1.1, Array.length_toList, size_madeCells]
        have map_eq : (ps.map fun (p : Nat × Operand) => (p.1, ρ p.2)).toList = ps.toList.map fun (p : Nat × Operand) => (p.1, ρ p.2) := by simp
        obtain ⟨φ', f1, f2, f3⟩ := hr.newF (w' := w.alloc (.cells ccs e)) (World.grownBy_alloc w _ _) q2 (fun j cv hj => by
          rw [World.cell?, heap_alloc_new]; simpa using hj)
        refine ⟨φ', .slice (some ⟨w.heap.size, 0, none⟩) len len, _, .inl ?_, f1, f2, (f3 _ _ (Nat.le_refl _)).2⟩
        · have hle : ¬ (len * sz > 2 ^ 24) := by have := hb.2; omega
          have q1' : Instr.fill (fun i => some (i * sz, sz)) (madeCells zv.cells (len * sz)) (ps.toList.map fun (p : Nat × Operand) => (p.1, ρ p.2)) = some ccs := q1
          by_cases h0 : len * sz = 0
          · have hm : ∀ f : Nat → Value, (Array.range (len * sz)).map f = #[] := fun f => by simp [h0]
            rw [show madeCells zv.cells (len * sz) = #[] from hm _] at q1'
            simp only [execOp, ho, Instr.buildSlice, Sem.run_bind, run_underlying hu, hsr, Result.andThen_ok, if_neg hle, if_pos h0, hm, map_eq, pure_bind, q1']
            simp [newRow]
          · have hm : (Array.range (len * sz)).map (fun i => zv.cells[i % zv.cells.size]!) = madeCells zv.cells (len * sz) := rfl
            simp only [execOp, ho, Instr.buildSlice, Sem.run_bind, run_underlying hu, hsr, Result.andThen_ok, if_neg hle, if_neg h0, hzr, map_eq, bind_assoc, pure_bind, hm, q1']
            simp [newRow]
      · cases ha
    · cases hc
  · cases hc

theorem ok_mark {s d e e' : TypeId} {x : Operand} (ho : o.op = .convert s d x) {ax : AX} (hs : P.underlying s = some (.slice e')) (hd : P.underlying d = some (.slice e)) (he : P.underlying e = some (.int .u8)) (hsd : s = d) (hx : tr x = some ax)
    (ha : aop cf S ev (.mark ax) = some (v, S')) : Gives w0 φ S' v ((execOp ρ o).run P w) := by
  have kx := hρ _ _ hx
  simp only [aop] at ha
  split at ha
  · rename_i cs n hh
    rw [hh] at kx
    split at ha
    · cases ha
    · rename_i hcs
      cases ha
      generalize hrx : ρ x = rx at kx
      cases kx with
      | @csln _ cvs a n c hl hc h1 hO hn hb hsp =>
        have hz := hc 0 (cvs[0]'(by omega)) (List.getElem?_eq_getElem (by omega))
        have hab : (a.add 0).block = a.block := by simp [Addr.add]
        have hrun : (execOp ρ o).run P w = .ok (.value (.slice (some a) n c)) (match w.shape? a.block with | some (_, k) => w.freeze ⟨a.block, k, none⟩ 1 | none => w) := by
          subst hsd
          have hee : e' = e := by rw [hs] at hd; cases hd; rfl
          subst hee
          simp only [execOp, ho, convert, hrx, run_underlying hs, run_underlying he, Sem.run_bind, Result.andThen_ok, beq_self_eq_true, markStringish, run_shape]
          cases w.shape? a.block with
          | none => simp
          | some p => simp
        refine ⟨φ, _, _, .inl hrun, .refl _, ?_, .csl hl hc h1 hO hn⟩
        split
        · exact hr.mark hz (by rw [hab]; exact hb) _ (by rw [hab]) 1
        · exact hr
  · cases ha

theorem ok_store {t : TypeId} {x y : Operand} (ho : o.op = .store t x y) {ao : AOp} (hc : compOp P tr o.op = some ao) (ha : aop cf S ev ao = some (v, S')) : Gives w0 φ S' v ((execOp ρ o).run P w) := by
  rw [ho] at hc
  simp only [compOp, Option.bind_eq_some_iff, Option.map_eq_some_iff] at hc
  obtain ⟨n, hn, ax, hx, ay, hy, rfl⟩ := hc
  have kx := hρ _ _ hx
  have ky := hρ _ _ hy
  obtain ⟨hsr, hpos⟩ := run_size (P := P) (w := w) hn
  simp only [aop] at ha
  split at ha
  · rename_i id off he
    rw [he] at kx
    obtain ⟨p, hp, e'⟩ := kx.ptr_inv
    split at ha
    · rename_i cs hS
      split at ha
      · rename_i hb
        cases ha
        have hV := ky.cells (fun q => by rw [q] at hb; simp at hb; omega)
        have hlen : (ρ y).cells.size = n := by have := hV.1.1; simp at this; omega
        obtain ⟨h1, h2, h3⟩ := hr.write hp hS off hV (by omega)
        have hst := run_storeCells_cells (P := P) p.b (p.o + off) (ρ y).cells.toList 0 w h2 h3 hV.2
        rw [hb.1] at h1
        refine ⟨φ, undef, _, .inr ⟨?_, rfl⟩, .refl _, h1, .undef⟩
        simp only [Nat.add_zero] at hst
        simp only [execOp, ho, Instr.storeAt, e', Instr.sureAddr, storeVar, Sem.run_bind, Sem.run_pure, hsr, Result.andThen_ok, hlen, ne_eq, not_true_eq_false, if_false, hst, pure_bind]
      · cases ha
    · cases ha
  · cases ha

theorem ok_s2b {s d e : TypeId} {x : Operand} (ho : o.op = .convert s d x) {ax : AX} (hs : P.underlying s = some .string) (hd : P.underlying d = some (.slice e)) (he : P.underlying e = some (.int .u8)) (hx : tr x = some ax)
    (ha : aop cf S ev (.s2b ax) = some (v, S')) : Gives w0 φ S' v ((execOp ρ o).run P w) := by
  have kx := hρ _ _ hx
  simp only [aop] at ha
  split at ha
  · rename_i s' hh
    rw [hh] at kx; have e' := kx.str_inv
    split at ha
    · cases ha
      have hge := grownCap_ge w (ByteArray.size ⟨s'.toArray⟩) 0 e
      have hrun := run_bytes_of_string (P := P) w s d e ⟨s'.toArray⟩ hs hd he
      generalize grownCap w (ByteArray.size ⟨s'.toArray⟩) 0 e = c at hge hrun
      have hsz : ByteArray.size ⟨s'.toArray⟩ = s'.length := rfl
      rw [hsz] at hge hrun
      have hrow : bytesRow ⟨s'.toArray⟩ c = ((s'.map fun (c : UInt8) => Value.int .u8 c.toNat) ++ List.replicate (c - s'.length) (Value.int .u8 0)).toArray := by
        simp [bytesRow, hsz]
      have hsize : (bytesRow ⟨s'.toArray⟩ c).size = c := by rw [hrow]; simp; omega
      refine ⟨φ.snoc ⟨w.heap.size, 0, c, s'.length⟩, .slice (some ⟨w.heap.size, 0, none⟩) s'.length c, _, .inl (by simp only [execOp, ho, e', Sem.run_bind, hrun, Result.andThen_ok, Sem.run_pure]; rfl), .snoc _ _, ?_, ?_⟩
      · have hg : w.grownBy (w.drew.alloc (.cells (bytesRow ⟨s'.toArray⟩ c) e ((bytesRow ⟨s'.toArray⟩ c).size, (bytesRow ⟨s'.toArray⟩ c).size + 1))) none := by
          have := World.grownBy_alloc w.drew (.cells (bytesRow ⟨s'.toArray⟩ c) e ((bytesRow ⟨s'.toArray⟩ c).size, (bytesRow ⟨s'.toArray⟩ c).size + 1)) none
          exact ⟨this.os, this.tape, this.output, this.size, this.block⟩
        refine (hr.grown hg).push (fun i q y hq hy ly => ?_) (hr.freshZ (Nat.le_refl _)) ⟨by simp, hr.below.size, _, _, _, heap_alloc_new w.drew _, hsize, .inr (Nat.le_refl _), by rw [hsize]; simp; omega, fun j u hj => ?_⟩
        · have := ((hr.obj i q y hq hy).lt ly).2; simp; omega
        · have hV := (bytes_V (w0 := w0) (φ := φ) s')
          obtain ⟨cv, c1, c2⟩ := hV.1.get hj
          refine ⟨cv, ?_, c2, hV.2 cv (List.mem_of_getElem? c1)⟩
          rw [hrow, Nat.zero_add, List.getElem?_toArray, List.getElem?_append_left (List.getElem?_eq_some_iff.1 c1).1]; exact c1
      · exact V.sl (p := ⟨w.heap.size, 0, c, s'.length⟩) (last_place hr _) (fun _ => rfl) (by simp; omega) (by simp) hge (by omega) (by simp)
    · cases ha
  · cases ha

theorem ok_s2bf {s d e : TypeId} {x : Operand} (ho : o.op = .convert s d x) {ax : AX} (hs : P.underlying s = some .string) (hd : P.underlying d = some (.slice e)) (he : P.underlying e = some (.int .u8)) (hx : tr x = some ax)
    (ha : aop cf S ev (.s2bf ax) = some (v, S')) : Gives w0 φ S' v ((execOp ρ o).run P w) := by
  have kx := hρ _ _ hx
  simp only [aop] at ha
  split at ha
  · rename_i s' hh
    rw [hh] at kx; have e' := kx.str_inv
    split at ha
    · cases ha
      have hge := grownCap_ge w (ByteArray.size ⟨s'.toArray⟩) 0 e
      have hrun := run_bytes_of_string (P := P) w s d e ⟨s'.toArray⟩ hs hd he
      generalize grownCap w (ByteArray.size ⟨s'.toArray⟩) 0 e = c at hge hrun
      have hsz : ByteArray.size ⟨s'.toArray⟩ = s'.length := rfl
      rw [hsz] at hge hrun
      have hrow : bytesRow ⟨s'.toArray⟩ c = ((s'.map fun (c : UInt8) => Value.int .u8 c.toNat) ++ List.replicate (c - s'.length) (Value.int .u8 0)).toArray := by
        simp [bytesRow, hsz]
      have hsize : (bytesRow ⟨s'.toArray⟩ c).size = c := by rw [hrow]; simp; omega
      have hg : w.grownBy (w.drew.alloc (.cells (bytesRow ⟨s'.toArray⟩ c) e ((bytesRow ⟨s'.toArray⟩ c).size, (bytesRow ⟨s'.toArray⟩ c).size + 1))) none := by
        have := World.grownBy_alloc w.drew (.cells (bytesRow ⟨s'.toArray⟩ c) e ((bytesRow ⟨s'.toArray⟩ c).size, (bytesRow ⟨s'.toArray⟩ c).size + 1)) none
        exact ⟨this.os, this.tape, this.output, this.size, this.block⟩
      obtain ⟨φ', f1, f2, f3⟩ := hr.newF hg (bytes_V (w0 := w0) (φ := φ) s') (fun j cv hj => by
        have hj' := (List.getElem?_eq_some_iff.1 hj).1
        have hh := heap_alloc_new w.drew (.cells (bytesRow ⟨s'.toArray⟩ c) e ((bytesRow ⟨s'.toArray⟩ c).size, (bytesRow ⟨s'.toArray⟩ c).size + 1))
        have hh : (w.drew.alloc (.cells (bytesRow ⟨s'.toArray⟩ c) e ((bytesRow ⟨s'.toArray⟩ c).size, (bytesRow ⟨s'.toArray⟩ c).size + 1))).heap[w.heap.size]? = _ := hh
        rw [World.cell?, hh]
        simp only [Option.isSome_none, Bool.false_eq_true, if_false]
        rw [hrow, List.getElem?_toArray, List.getElem?_append_left hj']; exact hj)
      exact ⟨φ', .slice (some ⟨w.heap.size, 0, none⟩) s'.length c, _, .inl (by simp only [execOp, ho, e', Sem.run_bind, hrun, Result.andThen_ok, Sem.run_pure]), f1, f2, (f3 _ _ hge).1⟩
    · cases ha
  · cases ha

theorem ok_mksl {t : TypeId} {l c : Operand} (ho : o.op = .makeSlice t l c) {ao : AOp} (hc : compOp P tr o.op = some ao) (ha : aop cf S ev ao = some (v, S')) : Gives w0 φ S' v ((execOp ρ o).run P w) := by
  rw [ho] at hc
  simp only [compOp] at hc
  split at hc
  · rename_i e hu
    simp only [Option.bind_eq_some_iff] at hc
    obtain ⟨i, hi, z, hz, hc⟩ := hc
    split at hc
    · rename_i hpos
      simp only [Option.bind_eq_some_iff, Option.map_eq_some_iff] at hc
      obtain ⟨al, hl, ac, hcc, rfl⟩ := hc
      have kl := hρ _ _ hl
      have kc := hρ _ _ hcc
      simp only [aop] at ha
      split at ha
      · rename_i n m he1 he2
        split at ha
        · rename_i hb; cases ha
          obtain ⟨rfl, h0, hbd, hzl⟩ := hb
          rw [he1] at kl; rw [he2] at kc
          have e1 := kl.int_inv; have e2 := kc.int_inv
          obtain ⟨i', zv, hi', hzv, hzV⟩ := zero_info (w0 := w0) (φ := φ) hz
          rw [hi] at hi'; cases hi'
          have hzs : zv.cells.size = i.size := by have := hzV.1.1; simp at this; omega
          obtain ⟨k, rfl⟩ : ∃ k : Nat, n = k := ⟨n.toNat, by omega⟩
          have hk : k ≤ 140737488355328 := by
            have : (k : Int) * 1 ≤ (k : Int) * i.bytes := Int.mul_le_mul_of_nonneg_left (by omega) (by omega)
            omega
          have hrun := run_make (P := P) w t e i zv hu hi hzv .i64 .i64 k k (by omega) (by omega) (by rw [Int.mul_comm]; omega) (by omega)
          have hmade : Vc w0 φ (List.replicate k z).flatten (madeCells zv.cells (k * i.size)).toList := by
            rw [← hzs, made_flat _ (by omega)]; exact rep_V hzV k
          have hal := hr.alloc hmade e 0 []
          simp only [List.append_nil, List.length_nil, Nat.add_zero, Array.toArray_toList] at hal
          have hml : (madeCells zv.cells (k * i.size)).toList.length = k * i.size := by rw [Array.length_toList, size_madeCells]
          have hfl : (List.replicate k z).flatten.length = k * i.size := by rw [hmade.1.1, hml]
          rw [hml, hfl] at hal
          refine ⟨_, .slice (some ⟨w.heap.size, 0, none⟩) k k, _, .inl ?_, .snoc _ _, hal, ?_⟩
          · simp only [execOp, ho, e1, e2, Sem.run_bind, hrun, Result.andThen_ok, Sem.run_pure, Int.toNat_natCast]
          · simp only [Int.toNat_natCast]
            exact V.sl (p := ⟨w.heap.size, 0, k * i.size, k * i.size⟩) (last_place hr _) (fun _ => rfl) (by simp) (by simp) (Nat.le_refl _) hpos.1 (by simp)
        · cases ha
      · cases ha
    · cases hc
  · cases hc

end
end Go.Proofs.YtaajlbbooneiiaaDoor.Avm
