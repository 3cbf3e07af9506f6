/- Slices cut, bytes to strings, lengths of maps, lookups, greatest and least, structs built. -/
import Derived.Test.YtmijfhepagobdaaA8
import Derived.MapKept
import Derived.Laws.BytesString
set_option linter.unusedVariables false
set_option linter.unusedSimpArgs false
set_option linter.unusedSectionVars false
namespace Go.Proofs.Ytmijfhepagobdaa.Avm
open Go.RowKit

theorem asBytes_V {w0 : World} {φ : Pc} : ∀ {cs : List AV} {cvs : List Value} {s : List UInt8}, asBytes cs = some s → Vs w0 φ cs cvs → ∃ ns : List Int, cvs = ns.map (Value.int .u8) ∧ s = ns.map fun n => UInt8.ofNat n.toNat
  | [], cvs, s, h, k => by
    cases h
    have : cvs = [] := List.eq_nil_of_length_eq_zero k.1.symm
    exact ⟨[], by simp [this], rfl⟩
  | c :: cs, cvs, s, h, k => by
    obtain ⟨cv, cvs', rfl, h1, h2⟩ := k.cons_inv
    unfold asBytes at h
    split at h
    · rename_i q; exact absurd q (by simp)
    · rename_i n rest he
      cases he
      split at h
      · obtain ⟨s', h3, rfl⟩ := Option.map_eq_some_iff.1 h
        obtain ⟨ns, e1, e2⟩ := asBytes_V h3 h2
        exact ⟨n :: ns, by simp [e1, h1.int_inv], by simp [e2]⟩
      · cases h
    · cases h

section elems
variable {P : Program} {w0 w : World} {φ : Pc} {S : Store}
/-- the cells of a slice, in the world -/
theorem elems_slice (hr : Rel w0 φ S w) {sz : Nat} {x : AV} {cx : Value} {cs : List AV} {n : Nat} (hx : V w0 φ x cx) (hs : ∀ s, x ≠ .str s) (h : elems S sz x = some (cs, n)) :
    (cs = [] ∧ n = 0 ∧ cx = .slice none 0 0) ∨ ∃ a c cvs, cx = .slice (some a) n c ∧ cvs.length = n * sz ∧ Vc w0 φ cs cvs ∧ n ≤ c ∧ ∀ (j : Nat) (u : Value), cvs[j]? = some u → w.cell? (a.add j) = some u := by
  unfold elems at h
  split at h
  · cases h; exact .inl ⟨rfl, rfl, hx.nilS_inv⟩
  · cases h
    obtain ⟨b, e⟩ := hx.emp_inv
    cases b with
    | none => exact .inl ⟨rfl, rfl, e⟩
    | some a => exact .inr ⟨a, 0, [], e, by simp, .nil, Nat.le_refl _, fun j u hu => by simp at hu⟩
  · cases h
    obtain ⟨a, c, e⟩ := hx.nsl_inv
    exact .inr ⟨a, c, [], e, by simp, .nil, Nat.zero_le _, fun j u hu => by simp at hu⟩
  · rename_i cs' n'
    split at h
    · rename_i hl; cases h
      obtain ⟨a, c, cvs, e, h1, h2, h3⟩ | ⟨rfl, rfl, e⟩ := hx.csl_inv
      rotate_left
      · exact .inl ⟨rfl, rfl, e⟩
      exact .inr ⟨a, c, cvs, e, by rw [← h1.1.1]; exact hl, h1, h2, fun j u hu => hr.cell0 (h3 j u hu)⟩
    · cases h
  · rename_i id off n' sz'
    obtain ⟨a, c, p, e, hp, ha, ht, hc, hn, hsz, _⟩ := hx.sl_inv
    split at h
    · rename_i cs' hS
      split at h
      · rename_i hb; cases h
        obtain ⟨rfl, hb⟩ := hb
        obtain ⟨cvs, h1, h2, h3⟩ := hr.cells hp hS off (n * sz) hb
        refine .inr ⟨a, c, cvs, e, h2, h1, hn, fun j u hu => ?_⟩
        have : 0 < c := by
          rcases Nat.eq_zero_or_pos n with h0 | h0
          · have h0' : cvs = [] := List.eq_nil_of_length_eq_zero (by rw [h2, h0, Nat.zero_mul])
            subst h0'; simp at hu
          · omega
        rw [ha this, add_none]; exact h3 j u hu
      · cases h
    · cases h
  · rename_i id off n' c sz'
    obtain ⟨a, p, e, hp, ha, hk, hn, hsz⟩ := hx.slc_inv
    split at h
    · rename_i cs' hS
      split at h
      · rename_i hb; cases h
        obtain ⟨rfl, hb⟩ := hb
        obtain ⟨cvs, h1, h2, h3⟩ := hr.cells hp hS off (n * sz) hb
        refine .inr ⟨a, c, cvs, e, h2, h1, hn, fun j u hu => ?_⟩
        have : 0 < c := by
          rcases Nat.eq_zero_or_pos n with h0 | h0
          · have h0' : cvs = [] := List.eq_nil_of_length_eq_zero (by rw [h2, h0, Nat.zero_mul])
            subst h0'; simp at hu
          · omega
        rw [ha this, add_none]; exact h3 j u hu
      · cases h
    · cases h
  · exact absurd rfl (hs _)
  · cases h
end elems

section
variable {P : Program} {w0 w : World} {φ : Pc} {S S' : Store} {ev : AX → AV} {ρ : Operand → Value} {tr : Operand → Option AX} {cf : CallF} {o : Oper} {v : AV}
  (hr : Rel w0 φ S w) (hρ : ∀ x ax, tr x = some ax → V w0 φ (ev ax) (ρ x))
include hr hρ

theorem ok_b2s {s d e : TypeId} {x : Operand} (ho : o.op = .convert s d x) {ax : AX} (hs : P.underlying s = some (.slice e)) (he : P.underlying e = some (.int .u8)) (hd : P.underlying d = some .string) (hx : tr x = some ax)
    (ha : aop cf S ev (.b2s ax) = some (v, S')) : Gives w0 φ S' v ((execOp ρ o).run P w) := by
  have kx := hρ _ _ hx
  simp only [aop, Option.bind_eq_some_iff, Option.map_eq_some_iff, Prod.mk.injEq] at ha
  obtain ⟨⟨cs, n⟩, h1, s', h2, rfl, rfl⟩ := ha
  have hns : ∀ q, ev ax ≠ .str q := fun q hq => by rw [hq] at h1; simp at h1
  have h1 : elems S 1 (ev ax) = some (cs, n) := by
    split at h1
    · cases h1
    · exact h1
  rcases elems_slice hr kx hns h1 with ⟨rfl, rfl, e'⟩ | ⟨a, c, cvs, e', hl, hv, hn, hc⟩
  · cases h2
    refine gives_value hr (cv := .string ByteArray.empty) ?_ (.str ByteArray.empty)
    simp [execOp, ho, e', run_convert_bytes_nil (P := P) w s e hs he 0 0 d hd]
  · obtain ⟨ns, e1, rfl⟩ := asBytes_V h2 hv.1
    subst e1
    have hld := run_loadCells_list (P := P) w a _ hc
    rw [hl, Nat.mul_one] at hld
    have hb := run_bytesToString (P := P) w a n c ns (by rw [hld])
    refine gives_value hr (cv := .string ⟨(ns.map fun n => UInt8.ofNat n.toNat).toArray⟩) ?_ (.str' _)
    simp only [execOp, ho, e', Sem.run_bind, run_convert_bytes_string w s d e _ n c hs he hd, hb, foldl_push_bytes, Result.andThen_ok, Sem.run_pure]
    simp [ByteArray.empty, ByteArray.emptyWithCapacity]
    rfl

theorem ok_slice {t e : TypeId} {x : Operand} {lo hi mx : Option Operand} {alo ahi amx : Option AX} {ax : AX} {sz : Nat} (ho : o.op = .slice t x lo hi mx) (hu : P.underlying t = some (.slice e)) (hsz : szOf P e = some sz)
    (hx : tr x = some ax) (hlo : trO tr lo = some alo) (hhi : trO tr hi = some ahi) (hmx : trO tr mx = some amx)
    (ha : aop cf S ev (.slice sz ax alo ahi amx) = some (v, S')) : Gives w0 φ S' v ((execOp ρ o).run P w) := by
  have kx := hρ _ _ hx
  have hs := run_size (w := w) hsz
  have run : ∀ a len cap l h m, ρ x = .slice a len cap → (Instr.sliceBounds true len cap (lo.map ρ) (hi.map ρ) (mx.map ρ)).run P w = .ok (l, h, m) w →
      (execOp ρ o).run P w = .ok (.value (.slice (if m = l then a else a.map (·.add (l * sz))) (h - l) (m - l))) w := fun a len cap l h m e' hb => by
    simp only [execOp, ho, Instr.sliceAt, Sem.run_bind, run_underlying hu, Result.andThen_ok, Instr.slice, e', hb, hs.1, Sem.run_pure, pure_bind]
  have mxn : amx.isNone = mx.isNone := by
    cases mx with
    | none => simp only [trO, Option.some.injEq] at hmx; subst hmx; rfl
    | some y => simp only [trO, Option.map_eq_some_iff] at hmx; obtain ⟨a, _, rfl⟩ := hmx; rfl
  have hin : ahi.isSome = hi.isSome := by
    cases hi with
    | none => simp only [trO, Option.some.injEq] at hhi; subst hhi; rfl
    | some y => simp only [trO, Option.map_eq_some_iff] at hhi; obtain ⟨a, _, rfl⟩ := hhi; rfl
  simp only [aop] at ha
  split at ha
  · rename_i he
    rw [he] at kx; have e' := kx.nilS_inv
    simp only [Option.bind_eq_some_iff] at ha
    obtain ⟨l, el, h, eh, m, em, ha⟩ := ha
    split at ha
    · rename_i hb; cases ha
      obtain ⟨rfl, rfl, rfl, hm⟩ := hb
      rw [mxn, hin] at hm
      have hb := run_bounds (P := P) (w := w) hr hρ (isS := true) (len := 0) (cap := 0) (m := 0) hlo hhi hmx el eh em (by omega) (by omega) (by omega) (by omega) hm
      exact gives_value hr (run _ _ _ _ _ _ e' hb) (by simpa using V.nilS)
    · cases ha
  · rename_i he
    rw [he] at kx; obtain ⟨b', e'⟩ := kx.emp_inv
    simp only [Option.bind_eq_some_iff] at ha
    obtain ⟨l, el, h, eh, m, em, ha⟩ := ha
    split at ha
    · rename_i hb; cases ha
      obtain ⟨rfl, rfl, rfl, hm⟩ := hb
      rw [mxn, hin] at hm
      have hb := run_bounds (P := P) (w := w) hr hρ (isS := true) (len := 0) (cap := 0) (m := 0) hlo hhi hmx el eh em (by omega) (by omega) (by omega) (by omega) hm
      exact gives_value hr (run _ _ _ _ _ _ e' hb) (by simpa using V.emp)
    · cases ha
  · rename_i he
    rw [he] at kx; obtain ⟨b', c', e'⟩ := kx.nsl_inv
    simp only [Option.bind_eq_some_iff] at ha
    obtain ⟨l, el, h, eh, m, em, ha⟩ := ha
    split at ha
    · rename_i hb; cases ha
      obtain ⟨rfl, rfl, rfl, hm⟩ := hb
      rw [mxn, hin] at hm
      have mxs : amx.isSome = mx.isSome := by rw [← Option.not_isNone, mxn, Option.not_isNone]
      rw [mxs]
      cases mx with
      | none =>
        have hb := run_bounds (P := P) (w := w) hr hρ (isS := true) (len := 0) (cap := c') (m := c') hlo hhi (mx := none) (amx := none) rfl el eh rfl (by omega) (by omega) (by omega) (by omega) (.inl rfl)
        refine gives_value hr (run _ _ _ _ _ _ e' (by simpa using hb)) ?_
        simp only [Option.isSome_none, Bool.false_eq_true, if_false, Int.toNat_zero, Nat.sub_self, Nat.zero_mul]
        have hcs : ∀ a : Addr, V w0 φ (.csl [] 0) (.slice (some a) 0 (c' - 0)) := fun a => .csl (cvs := []) rfl (fun j cv h => by simp at h) (fun j v cv h => by simp at h) (fun cv h => by simp at h) (Nat.zero_le _)
        split <;> exact hcs _
      | some y =>
        have em' : optInt ev c' amx = some 0 := by
          simp only [trO, Option.map_eq_some_iff] at hmx; obtain ⟨ay, _, rfl⟩ := hmx; exact em
        have hb := run_bounds (P := P) (w := w) hr hρ (isS := true) hlo hhi hmx el eh em' (by omega) (by omega) (by omega) (by omega) hm
        refine gives_value hr (run _ _ _ _ _ _ e' hb) ?_
        simp only [Option.isSome_some, if_true, Int.toNat_zero, Nat.sub_self, Nat.zero_mul]
        exact .emp
    · cases ha
  · rename_i cs n he
    rw [he] at kx
    simp only [Option.bind_eq_some_iff] at ha
    obtain ⟨l, el, h, eh, m, em, ha⟩ := ha
    split at ha
    · rename_i hb; cases ha
      obtain ⟨b0, b1, b2, b3, b4⟩ := hb
      rw [mxn, hin] at b4
      obtain ⟨a, c, cvs, e', h1, hn, h2⟩ | ⟨rfl, rfl, e'⟩ := kx.csl_inv
      rotate_left
      · have hl0 : l = 0 := by omega
        have hh0 : h = 0 := by omega
        have hm0 : m = 0 := by omega
        subst hl0; subst hh0; subst hm0
        have hb := run_bounds (P := P) (w := w) hr hρ (isS := true) (len := 0) (cap := 0) (m := 0) hlo hhi hmx el eh em (by omega) (by omega) (by omega) (by omega) b4
        refine gives_value hr (run _ _ _ _ _ _ e' hb) ?_
        simp only [Int.toNat_zero, Nat.zero_mul, List.drop_nil, List.take_nil, Nat.sub_self, if_true]
        split
        · exact .emp
        · exact .csl0
      have hb : ∃ m', h.toNat ≤ m' ∧ (mx.isSome → m' = m.toNat) ∧ (Instr.sliceBounds true n c (lo.map ρ) (hi.map ρ) (mx.map ρ)).run P w = .ok (l.toNat, h.toNat, m') w := by
        cases mx with
        | none => exact ⟨c, by omega, by simp, by have := run_bounds (P := P) (w := w) hr hρ (isS := true) (len := n) (cap := c) (m := c) hlo hhi (mx := none) (amx := none) rfl el eh rfl b0 b1 (by omega) (by omega) (.inl rfl); simpa using this⟩
        | some y =>
          have em' : optInt ev c amx = some m := by
            simp only [trO, Option.map_eq_some_iff] at hmx; obtain ⟨ay, _, rfl⟩ := hmx; exact em
          exact ⟨m.toNat, by omega, fun _ => rfl, run_bounds (P := P) (w := w) hr hρ hlo hhi hmx el eh em' b0 b1 b2 (by omega) b4⟩
      obtain ⟨m', hm', hmm, hb⟩ := hb
      have mxs : amx.isSome = mx.isSome := by rw [← Option.not_isNone, mxn, Option.not_isNone]
      refine gives_value hr (run _ _ _ _ _ _ e' hb) ?_
      have hV := (h1.drop (l.toNat * sz)).take ((h.toNat - l.toNat) * sz)
      split
      · rename_i hq
        have hq1 := hmm (by rw [← mxs]; exact hq.1)
        have : m' = l.toNat := by rw [hq1, hq.2]
        rw [show h.toNat - l.toNat = 0 by omega, show m' - l.toNat = 0 by omega]
        split <;> exact .emp
      by_cases q : m' = l.toNat
      · rw [if_pos q]
        refine .mkCsl hV (by omega) fun j u hu => ?_
        have : (h.toNat - l.toNat) * sz = 0 := by rw [show h.toNat - l.toNat = 0 by omega, Nat.zero_mul]
        rw [this] at hu; simp at hu
      · rw [if_neg q]
        refine .mkCsl hV (by omega) fun j u hu => ?_
        rw [add_add]
        rw [List.getElem?_take] at hu
        split at hu
        · rw [List.getElem?_drop] at hu; exact h2 _ _ hu
        · cases hu
    · cases ha
  · rename_i id off n sz' he
    rw [he] at kx; obtain ⟨a, c, p, e', hp, hA, ht, hc, hn, hs', hk⟩ := kx.sl_inv
    simp only [Option.bind_eq_some_iff] at ha
    obtain ⟨l, el, h, eh, m, em, ha⟩ := ha
    split at ha
    · rename_i hb; cases ha
      obtain ⟨rfl, b0, b1, b2, b3, b4⟩ := hb
      rw [mxn, hin] at b4
      rw [mxn]
      cases mx with
      | none =>
        have hb := run_bounds (P := P) (w := w) hr hρ (isS := true) (len := n) (cap := c) (m := c) hlo hhi (mx := none) (amx := none) rfl el eh rfl b0 b1 (by omega) (by omega) (.inl rfl)
        refine gives_value hr (run _ _ _ _ _ _ e' (by simpa using hb)) ?_
        simp only [Option.isNone_none, if_true, Int.toNat_natCast]
        have hl : l.toNat ≤ c := by omega
        have : (l.toNat + (c - l.toNat)) * sz = c * sz := by rw [show l.toNat + (c - l.toNat) = c by omega]
        rw [Nat.add_mul] at this
        have hfin : V w0 φ (.sl id (off + l.toNat * sz) (h.toNat - l.toNat) sz) (.slice (some (if c = l.toNat then a else a.add (l.toNat * sz))) (h.toNat - l.toNat) (c - l.toNat)) := by
          have hkk : (l.toNat + (h.toNat - l.toNat)) * sz ≤ n * sz := Nat.mul_le_mul_right _ (by omega)
          rw [Nat.add_mul] at hkk
          refine .sl hp (fun h0 => ?_) (by omega) (by omega) (by omega) hs' (by omega)
          rw [if_neg (by omega), hA (by omega), add_none, Nat.add_assoc]
        split
        · rename_i q; rw [if_pos q] at hfin; exact hfin
        · rename_i q; rw [if_neg q] at hfin; exact hfin
      | some y =>
        have em' : optInt ev c amx = some m := by
          simp only [trO, Option.map_eq_some_iff] at hmx; obtain ⟨ay, _, rfl⟩ := hmx; exact em
        have hb := run_bounds (P := P) (w := w) hr hρ (isS := true) hlo hhi hmx el eh em' b0 b1 b2 (by omega) b4
        refine gives_value hr (run _ _ _ _ _ _ e' hb) ?_
        simp only [Option.isNone_some, Bool.false_eq_true, if_false]
        have hkk : (l.toNat + (m.toNat - l.toNat)) * sz ≤ n * sz := Nat.mul_le_mul_right _ (by omega)
        rw [Nat.add_mul] at hkk
        have hfin : V w0 φ (.slc id (off + l.toNat * sz) (h.toNat - l.toNat) (m.toNat - l.toNat) sz) (.slice (some (if m.toNat = l.toNat then a else a.add (l.toNat * sz))) (h.toNat - l.toNat) (m.toNat - l.toNat)) := by
          refine .slc hp (fun h0 => ?_) (by omega) (by omega) hs'
          rw [if_neg (by omega), hA (by omega), add_none, Nat.add_assoc]
        split
        · rename_i q; rw [if_pos q] at hfin; exact hfin
        · rename_i q; rw [if_neg q] at hfin; exact hfin
    · cases ha
  · rename_i id off n c sz' he
    rw [he] at kx; obtain ⟨a, p, e', hp, hA, hk, hn, hs'⟩ := kx.slc_inv
    simp only [Option.bind_eq_some_iff] at ha
    obtain ⟨l, el, h, eh, m, em, ha⟩ := ha
    split at ha
    · rename_i hb; cases ha
      obtain ⟨rfl, b0, b1, b2, b3, b4⟩ := hb
      rw [mxn, hin] at b4
      have hb := run_bounds (P := P) (w := w) hr hρ (isS := true) hlo hhi hmx el eh em b0 b1 b2 b3 b4
      refine gives_value hr (run _ _ _ _ _ _ e' hb) ?_
      have hkk : (l.toNat + (m.toNat - l.toNat)) * sz ≤ c * sz := Nat.mul_le_mul_right _ (by omega)
      rw [Nat.add_mul] at hkk
      have hfin : V w0 φ (.slc id (off + l.toNat * sz) (h.toNat - l.toNat) (m.toNat - l.toNat) sz) (.slice (some (if m.toNat = l.toNat then a else a.add (l.toNat * sz))) (h.toNat - l.toNat) (m.toNat - l.toNat)) := by
        refine .slc hp (fun h0 => ?_) (by omega) (by omega) hs'
        rw [if_neg (by omega), hA (by omega), add_none, Nat.add_assoc]
      split
      · rename_i q; rw [if_pos q] at hfin; exact hfin
      · rename_i q; rw [if_neg q] at hfin; exact hfin
    · cases ha
  · cases ha

theorem ok_slicex {t e : TypeId} {x lo hi : Operand} {alo ahi : AX} {ax : AX} {sz : Nat} (ho : o.op = .slice t x (some lo) (some hi) none) (hu : P.underlying t = some (.slice e)) (hsz : szOf P e = some sz)
    (hx : tr x = some ax) (hlo : tr lo = some alo) (hhi : tr hi = some ahi)
    (ha : aop cf S ev (.slicex sz ax alo ahi) = some (v, S')) : Gives w0 φ S' v ((execOp ρ o).run P w) := by
  have kx := hρ _ _ hx
  have hs := run_size (w := w) hsz
  simp only [aop] at ha
  split at ha
  · rename_i id off n sz' kl l kh h he hel heh
    rw [he] at kx
    obtain ⟨a, c, p, e', hp, hA, ht, hc, hn, hs', hk⟩ := kx.sl_inv
    split at ha
    · rename_i cs hS
      split at ha
      · rename_i hb; obtain ⟨rfl, b0, b1, b2⟩ := hb; cases ha
        obtain ⟨hto, _⟩ := hr.obj _ _ _ hp hS
        have hhc : h.toNat ≤ c := by
          have : h.toNat * sz ≤ c * sz := by omega
          exact Nat.le_of_mul_le_mul_right this hs'
        have hb := run_bounds (P := P) (w := w) hr hρ (isS := true) (len := n) (cap := c) (m := c) (l := l) (h := h) (lo := some lo) (alo := some alo) (hi := some hi) (ahi := some ahi) (by simp only [trO, hlo, Option.map_some]) (by simp only [trO, hhi, Option.map_some]) (mx := none) (amx := none) rfl
          (by simp only [optInt, hel]) (by simp only [optInt, heh]) rfl b0 b1 (by omega) (by omega) (.inl rfl)
        have hb' : (Instr.sliceBounds true n c (some (ρ lo)) (some (ρ hi)) none).run P w = .ok (l.toNat, h.toNat, c) w := by simpa using hb
        have hl : l.toNat ≤ c := by omega
        have e1 : (l.toNat + (c - l.toNat)) * sz = c * sz := by rw [show l.toNat + (c - l.toNat) = c by omega]
        rw [Nat.add_mul] at e1
        have e2 : (l.toNat + (h.toNat - l.toNat)) * sz = h.toNat * sz := by rw [show l.toNat + (h.toNat - l.toNat) = h.toNat by omega]
        rw [Nat.add_mul] at e2
        have hfin : V w0 φ (.sl id (off + l.toNat * sz) (h.toNat - l.toNat) sz) (.slice (some (if c = l.toNat then a else a.add (l.toNat * sz))) (h.toNat - l.toNat) (c - l.toNat)) := by
          refine .sl hp (fun h0 => ?_) (by omega) (by omega) (by omega) hs' (by omega)
          rw [if_neg (by omega), hA (by omega), add_none, Nat.add_assoc]
        refine gives_value hr (cv := .slice (if c = l.toNat then some a else (some a).map (·.add (l.toNat * sz))) (h.toNat - l.toNat) (c - l.toNat)) ?_ ?_
        · simp only [execOp, ho, Instr.sliceAt, Sem.run_bind, run_underlying hu, Result.andThen_ok, Instr.slice, e', hs.1, Option.map_some, Option.map_none, hb', Sem.run_pure, pure_bind]
        · split
          · rename_i q; rw [if_pos q] at hfin; exact hfin
          · rename_i q; rw [if_neg q] at hfin; exact hfin
      · cases ha
    · cases ha
  · cases ha

theorem run_getMap {r : Nat} {es : Array MapEntry} {clk : Nat} (h : w.heap[r]? = some (.map es clk)) : (getObj r).run P w = .ok (.map es clk) w := by
  exact MapKept.run_getObj_map h

theorem ok_mlen {c : Call} {x : Operand} {t : TypeId} (ho : o.op = .call c) (hcl : c.callee = .builtin .len) (hcx : c.args.toList = [x]) (ht : c.argTypes[0]? = some t) {k e : TypeId} (hu : P.underlying t = some (.map k e)) {ax : AX} (hx : tr x = some ax)
    (ha : aop cf S ev (.mlen ax) = some (v, S')) : Gives w0 φ S' v ((execOp ρ o).run P w) := by
  have kx := hρ _ _ hx
  have run : ∀ r, (Builtin.len_ c.argTypes o.type #[ρ x]).run P w = .ok r w → (execOp ρ o).run P w = .ok (.value r) w := fun r hr' => by
    obtain ⟨cs, hcs⟩ := call_builtin (P := P) hr hρ ho hcl (vs := [ρ x]) (by rw [hcx]; rfl)
    rw [hcs]; simp [builtin, hr']
  simp only [aop] at ha
  split at ha
  · rename_i he
    rw [he] at kx
    have e' : ρ x = .map none := by generalize ρ x = q at kx; cases kx; rfl
    cases ha
    refine gives_value hr (run (.int .i64 0) ?_) (.int _ _)
    simp [Builtin.len_, ht, e', run_underlying hu, goInt]
  · rename_i id he
    split at ha
    · rename_i es hS
      cases ha
      rw [he] at kx
      obtain ⟨p, hp⟩ := hr.place hS
      obtain ⟨h1, ces, clk, h2, h3, h4⟩ := hr.obj _ _ _ hp hS
      have e' : ρ x = .map (some p.b) := by
        generalize hq : ρ x = q at kx
        cases kx with | map hp' => rw [hp] at hp'; cases hp'; rfl
      refine gives_value hr (run (.int .i64 es.length) ?_) (.int _ _)
      have hg := run_getMap (P := P) hr hρ h2
      simp only [Builtin.len_, ht, e', Sem.run_bind, run_underlying hu, List.getElem?_toArray, List.getElem?_cons_zero, Result.andThen_ok, hg, Sem.run_pure, goInt, h3]
    · cases ha
  · cases ha

end
end Go.Proofs.Ytmijfhepagobdaa.Avm
