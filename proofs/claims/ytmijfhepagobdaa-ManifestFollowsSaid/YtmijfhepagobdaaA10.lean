/- Maps: made, looked up, written; greatest and least; structs built. -/
import Derived.Test.YtmijfhepagobdaaA9
set_option linter.unusedVariables false
set_option linter.unusedSimpArgs false
set_option linter.unusedSectionVars false
namespace Go.Proofs.Ytmijfhepagobdaa.Avm
open Go.RowKit

def MRel (w0 : World) (φ : Pc) (es : List (AV × AV)) (ces : List MapEntry) : Prop :=
  ces.length = es.length ∧ ∀ (j : Nat) (k v : AV) (e : MapEntry), es[j]? = some (k, v) → ces[j]? = some e → V w0 φ k e.key ∧ V w0 φ v e.val
def KeyD (kk : List Nat) (d : TypeDesc) : Prop := (kk = [0] ∧ ∃ i, d = .int i) ∨ (kk = [1] ∧ d = .string)

theorem keyKind_inv {P : Program} {t : TypeId} {kk : List Nat} (h : keyKind P t = some kk) : ∃ d, P.underlying t = some d ∧ KeyD kk d := by
  unfold keyKind at h
  split at h
  · rename_i k hu; cases h; exact ⟨_, hu, .inl ⟨rfl, _, rfl⟩⟩
  · rename_i hu; cases h; exact ⟨_, hu, .inr ⟨rfl, rfl⟩⟩
  · cases h

section
variable {w0 : World} {φ : Pc}
theorem MRel.cons_inv {k v : AV} {es : List (AV × AV)} {ces : List MapEntry} (h : MRel w0 φ ((k, v) :: es) ces) : ∃ e ces', ces = e :: ces' ∧ V w0 φ k e.key ∧ V w0 φ v e.val ∧ MRel w0 φ es ces' := by
  cases ces with
  | nil => simp [MRel] at h
  | cons e ces =>
    have := h.2 0 k v e rfl rfl
    exact ⟨e, ces, rfl, this.1, this.2, by simpa using h.1, fun j a b x ha hb => h.2 (j + 1) a b x (by simpa using ha) (by simpa using hb)⟩

/-- keys compared -/
theorem sameNow_V {kk : List Nat} {d : TypeDesc} (hd : KeyD kk d) {a b : AV} {ca cb : Value} {r : Bool} (h : keyEq kk a b = some r) (ka : V w0 φ a ca) (kb : V w0 φ b cb) : Instr.sameNow d ca cb = some r ∧ (r = true → cb = ca) ∧ Instr.sameBits 10000 ca ca = true := by
  rcases hd with ⟨rfl, i, rfl⟩ | ⟨rfl, rfl⟩
  · unfold keyEq at h
    split at h
    · rename_i i x j y
      have := ka.int_inv; have := kb.int_inv; subst ca cb
      split at h
      · rename_i hij; subst hij; cases h
        refine ⟨?_, fun e => by rw [of_decide_eq_true e], by simp [Instr.sameBits]⟩
        simp only [Instr.sameNow, if_pos]
        congr 1
      · cases h
    · rename_i q; exact absurd q (by decide)
    · rename_i q; exact absurd q (by simp)
    · cases h
  · unfold keyEq at h
    split at h
    · rename_i q; exact absurd q (by decide)
    · rename_i x y _
      have := ka.str_inv; have := kb.str_inv; subst ca cb
      cases h
      have hb : ((⟨x.toArray⟩ : ByteArray) == ⟨y.toArray⟩) = decide (x = y) := by
        rw [Bool.eq_iff_iff, MapKept.bytes_beq]
        simp
      refine ⟨?_, fun e => by rw [of_decide_eq_true e], by simp [Instr.sameBits, MapKept.bytes_beq]⟩
      simp only [Instr.sameNow, hb]
    · rename_i q; exact absurd q (by simp)
    · cases h

theorem find_rel {kk : List Nat} {d : TypeDesc} (hd : KeyD kk d) {k : AV} {ck : Value} (hk : V w0 φ k ck) (v : AV) : ∀ (es : List (AV × AV)) (ces : List MapEntry) (i : Nat) (r : Option AV), MRel w0 φ es ces → findA kk k es = some r →
    (r = none ∧ Instr.findNow d ck ces i = some none ∧ putA kk k v es = some (es ++ [(k, v)])) ∨
    ∃ (j : Nat) (v' : AV) (e : MapEntry), r = some v' ∧ Instr.findNow d ck ces i = some (some (i + j, e.val)) ∧ ces[j]? = some e ∧ e.key = ck ∧ V w0 φ v' e.val ∧ putA kk k v es = some (es.set j (k, v)) ∧ j < es.length
  | [], ces, i, r, h, hf => by
    have : ces = [] := List.eq_nil_of_length_eq_zero (by simpa using h.1)
    subst this
    cases hf
    exact .inl ⟨rfl, rfl, rfl⟩
  | (k', v') :: es, ces, i, r, h, hf => by
    obtain ⟨e, ces', rfl, h1, h2, h3⟩ := h.cons_inv
    simp only [findA] at hf
    obtain ⟨t, ht, hf⟩ := Option.bind_eq_some_iff.1 hf
    obtain ⟨s1, s2, _⟩ := sameNow_V hd ht hk h1
    cases t with
    | true =>
      simp only [if_true, Option.some.injEq] at hf; subst hf
      exact .inr ⟨0, v', e, rfl, by simp [Instr.findNow, s1], rfl, s2 rfl, h2, by simp [putA, ht], by simp⟩
    | false =>
      simp only [Bool.false_eq_true, if_false] at hf
      rcases find_rel hd hk v es ces' (i + 1) r h3 hf with ⟨rfl, q1, q2⟩ | ⟨j, v'', e', rfl, q1, q2, q3, q4, q5, q6⟩
      · exact .inl ⟨rfl, by simp [Instr.findNow, s1, q1], by simp [putA, ht, q2]⟩
      · exact .inr ⟨j + 1, v'', e', rfl, by simp [Instr.findNow, s1, q1]; omega, by simpa using q2, q3, q4, by simp [putA, ht, q5], by simp; omega⟩

theorem find_of_put {kk : List Nat} {k v : AV} : ∀ {es es' : List (AV × AV)}, putA kk k v es = some es' → ∃ r, findA kk k es = some r
  | [], es', h => ⟨none, rfl⟩
  | (k', v') :: es, es', h => by
    simp only [putA] at h
    obtain ⟨t, ht, h⟩ := Option.bind_eq_some_iff.1 h
    cases t with
    | true => exact ⟨some v', by simp [findA, ht]⟩
    | false =>
      simp only [Bool.false_eq_true, if_false] at h
      obtain ⟨es'', h', _⟩ := Option.map_eq_some_iff.1 h
      obtain ⟨r, hr⟩ := find_of_put h'
      exact ⟨r, by simp [findA, ht, hr]⟩

theorem bits_self {kk : List Nat} {d : TypeDesc} (hk : KeyD kk d) {k : AV} {ck : Value} (h : keyOk kk k = true) (hV : V w0 φ k ck) : Instr.sameBits 10000 ck ck = true := by
  rcases hk with ⟨rfl, i, rfl⟩ | ⟨rfl, rfl⟩
  · cases k <;> simp [keyOk] at h
    rw [hV.int_inv]; simp [Instr.sameBits]
  · cases k <;> simp [keyOk] at h
    rw [hV.str_inv]; simp [Instr.sameBits, MapKept.bytes_beq]

theorem check_V {P : Program} {w : World} {kt : TypeId} {kk : List Nat} {d : TypeDesc} (hd : P.underlying kt = some d) (hk : KeyD kk d) {k : AV} {ck : Value} (h : keyOk kk k = true) (hV : V w0 φ k ck) (e : Bool) : (Instr.checkKey e 10000 kt ck).run P w = .ok () w := by
  have : ∀ n, (Instr.checkKey e (n + 1) kt ck).run P w = .ok () w := fun n => by
    unfold Instr.checkKey
    simp only [Sem.run_bind, run_underlying hd, Result.andThen]
    rcases hk with ⟨rfl, i, rfl⟩ | ⟨rfl, rfl⟩
    · simp
    · simp
  exact this 9999
end

section
variable {P : Program} {w0 w : World} {φ : Pc} {S S' : Store} {ev : AX → AV} {ρ : Operand → Value} {tr : Operand → Option AX} {cf : CallF} {o : Oper} {v : AV}
  (hr : Rel w0 φ S w) (hρ : ∀ x ax, tr x = some ax → V w0 φ (ev ax) (ρ x))
include hr hρ

theorem ok_look {t kt et : TypeId} {m k : Operand} {ok : Bool} (ho : o.op = .lookup t m k ok) (hu : P.underlying t = some (.map kt et)) {kk : List Nat} (hk : keyKind P kt = some kk) {z : AV} (hz : zeroAV P et = some z)
    {am ak : AX} (hm : tr m = some am) (hka : tr k = some ak) (ha : aop cf S ev (.look kk z ok am ak) = some (v, S')) : Gives w0 φ S' v ((execOp ρ o).run P w) := by
  have km := hρ _ _ hm
  have kk' := hρ _ _ hka
  obtain ⟨d, hd, hkd⟩ := keyKind_inv hk
  obtain ⟨zv, hzr, hzc⟩ := run_zeroAV (w := w) hz
  have hzV : V w0 φ z zv := constAV_V hzc
  have out : ∀ (b : Bool) (a : AV) (cv : Value), V w0 φ a cv → V w0 φ (if ok then AV.tup [a, .bool b] else a) (if ok then Value.tuple #[cv, .bool b] else cv) := fun b a cv h => by
    cases ok
    · simpa using h
    · exact .tup (cvs := [cv, .bool b]) rfl (Vs.cons h (.cons (.bool b) .nil)).2
  simp only [aop] at ha
  split at ha
  · rename_i he
    rw [he] at km
    have e' : ρ m = .map none := by generalize ρ m = q at km; cases km; rfl
    split at ha
    · rename_i hko; cases ha
      have hc := check_V (P := P) (w := w) hd hkd hko kk' true
      have := out false z zv hzV
      refine gives_value hr (cv := if ok then Value.tuple #[zv, .bool false] else zv) ?_ this
      have hf : (Instr.findKey kt (ρ k) []).run P w = .ok none w := MapKept.run_findKey hd rfl
      have : (#[] : Array MapEntry).toList = [] := rfl
      simp only [execOp, ho, Instr.lookup, Sem.run_bind, run_underlying hu, e', Result.andThen_ok, Sem.run_pure, this]
      have h0 : (#[] : Array MapEntry).isEmpty = true := rfl
      rw [h0, hc]
      simp only [Result.andThen_ok, Sem.run_bind, hf, hzr, Sem.run_pure]
    · cases ha
  · rename_i id he
    split at ha
    · rename_i es hS
      rw [he] at km
      obtain ⟨p, hp⟩ := hr.place hS
      obtain ⟨h1, ces, clk, h2, h3, h4⟩ := hr.obj _ _ _ hp hS
      have e' : ρ m = .map (some p.b) := by
        generalize ρ m = q at km
        cases km with | map hp' => rw [hp] at hp'; cases hp'; rfl
      split at ha
      · rename_i hko
        obtain ⟨r, hfa, hh⟩ := Option.map_eq_some_iff.1 ha
        have hc := check_V (P := P) (w := w) hd hkd hko kk' ces.isEmpty
        have hg := run_getMap (P := P) hr hρ h2
        have hmr : MRel w0 φ es ces.toList := ⟨by simpa using h3, fun j a b e x y => h4 j a b e x (by simpa using y)⟩
        have hrun : ∀ fr, (Instr.findKey kt (ρ k) ces.toList).run P w = .ok fr w → ∀ cv b, (match fr with | some (_, u) => u = cv ∧ b = true | none => zv = cv ∧ b = false) →
            (execOp ρ o).run P w = .ok (.value (if ok then Value.tuple #[cv, .bool b] else cv)) w := fun fr hf cv b hfr => by
          simp only [execOp, ho, Instr.lookup, Sem.run_bind, run_underlying hu, e', Result.andThen_ok, Sem.run_pure, hg, hc, hf]
          cases fr with
          | none => obtain ⟨rfl, rfl⟩ := hfr; simp only [Sem.run_bind, hzr, Result.andThen_ok, Sem.run_pure]
          | some q => obtain ⟨i, u⟩ := q; obtain ⟨rfl, rfl⟩ := hfr; simp only [pure_bind, Sem.run_pure, Result.andThen_ok]
        rcases find_rel hkd kk' .undef es ces.toList 0 r hmr hfa with ⟨rfl, q1, _⟩ | ⟨j, v', e, rfl, q1, q2, q3, q4, _⟩
        · have hf := MapKept.run_findKey (P := P) (w := w) hd q1
          have := hrun _ hf zv false ⟨rfl, rfl⟩
          simp only [Prod.mk.injEq] at hh
          have hv : v = (if ok then AV.tup [z, .bool false] else z) ∧ S' = S := by cases ok <;> simp_all
          obtain ⟨rfl, rfl⟩ := hv
          exact gives_value hr this (out false z zv hzV)
        · have hf := MapKept.run_findKey (P := P) (w := w) hd q1
          have := hrun _ hf e.val true ⟨rfl, rfl⟩
          have hv : v = (if ok then AV.tup [v', .bool true] else v') ∧ S' = S := by cases ok <;> simp_all
          obtain ⟨rfl, rfl⟩ := hv
          exact gives_value hr this (out true v' e.val q4)
      · cases ha
    · cases ha
  · cases ha

theorem ok_mapu {t kt et : TypeId} {m k y : Operand} (ho : o.op = .mapUpdate t m k y) (hu : P.underlying t = some (.map kt et)) {kk : List Nat} (hk : keyKind P kt = some kk)
    {am ak ay : AX} (hm : tr m = some am) (hka : tr k = some ak) (hy : tr y = some ay) (ha : aop cf S ev (.mapu kk am ak ay) = some (v, S')) : Gives w0 φ S' v ((execOp ρ o).run P w) := by
  have km := hρ _ _ hm
  have kk' := hρ _ _ hka
  have kv := hρ _ _ hy
  obtain ⟨d, hd, hkd⟩ := keyKind_inv hk
  simp only [aop] at ha
  split at ha
  · rename_i id he
    split at ha
    · rename_i es hS
      rw [he] at km
      obtain ⟨p, hp⟩ := hr.place hS
      obtain ⟨h1, ces, clk, h2, h3, h4⟩ := hr.obj _ _ _ hp hS
      have e' : ρ m = .map (some p.b) := by
        generalize ρ m = q at km
        cases km with | map hp' => rw [hp] at hp'; cases hp'; rfl
      split at ha
      · rename_i hko
        obtain ⟨es', hpa, hh⟩ := Option.map_eq_some_iff.1 ha
        cases hh
        obtain ⟨r, hfa⟩ := find_of_put hpa
        have hc := check_V (P := P) (w := w) hd hkd hko kk' false
        have hg := run_getMap (P := P) hr hρ h2
        have hmr : MRel w0 φ es ces.toList := ⟨by simpa using h3, fun j a b e x y => h4 j a b e x (by simpa using y)⟩
        have grown : ∀ o', w.grownBy { w with heap := w.heap.setIfInBounds p.b o' } (some p.b) := fun o' => ⟨rfl, rfl, rfl, by simp, fun i hi hne => (MapKept.heap_set h2).2 i (fun e => hne (by rw [e]))⟩
        have fin : ∀ ces' clk', (Instr.mapUpdate t (ρ m) (ρ k) (ρ y)).run P w = .ok () { w with heap := w.heap.setIfInBounds p.b (.map ces' clk') } → ces'.size = es'.length →
            (∀ (j : Nat) (a b : AV) (e : MapEntry), es'[j]? = some (a, b) → ces'[j]? = some e → V w0 φ a e.key ∧ V w0 φ b e.val) → Gives w0 φ (S.set id (.map es')) .undef ((execOp ρ o).run P w) := fun ces' clk' hrun hsz hall =>
          ⟨φ, undef, _, .inr ⟨by simp [execOp, ho, hrun], rfl⟩, .refl _, hr.set hp hS trivial (grown _) ⟨h1, ces', clk', (MapKept.heap_set h2).1, hsz, hall⟩, .undef⟩
        rcases find_rel hkd kk' (ev ay) es ces.toList 0 r hmr hfa with ⟨rfl, q1, q2⟩ | ⟨j, v', e, rfl, q1, q2, q3, q4, q5, q6⟩
        · have hf := MapKept.run_findKey (P := P) (w := w) hd q1
          have hset := MapKept.run_setObj_map (P := P) (.map (ces.push ⟨ρ k, ρ y, clk⟩) (clk + 1)) h2
          rw [q2] at hpa; cases hpa
          refine fin (ces.push ⟨ρ k, ρ y, clk⟩) (clk + 1) ?_ (by simp [h3]) fun j a b e ha hb => ?_
          · simp only [Instr.mapUpdate, Sem.run_bind, run_underlying hu, e', Result.andThen_ok, hg, hc, hf, hset]
          · rw [List.getElem?_append] at ha
            rw [Array.getElem?_push] at hb
            by_cases hj : j < es.length
            · rw [if_pos hj] at ha; rw [if_neg (by omega)] at hb; exact h4 j a b e ha hb
            · rw [if_neg hj] at ha
              have : j = es.length := by
                have := (List.getElem?_eq_some_iff.1 ha).1; simp at this; omega
              subst this
              rw [if_pos (by omega)] at hb
              simp at ha; cases hb; obtain ⟨rfl, rfl⟩ := ha
              exact ⟨kk', kv⟩
        · have hf := MapKept.run_findKey (P := P) (w := w) hd q1
          rw [q5] at hpa; cases hpa
          have q2' : ces[j]? = some e := by simpa using q2
          have hstay : (Instr.keyThatStays (ρ k) (ρ k)).run P w = .ok (ρ k) w := by
            have := bits_self hkd hko kk'
            simp [Instr.keyThatStays, this]
          have hset := MapKept.run_setObj_map (P := P) (.map (ces.modify j fun e => { e with key := ρ k, val := ρ y }) clk) h2
          refine fin (ces.modify j fun e => { e with key := ρ k, val := ρ y }) clk ?_ (by simp [h3]) fun i a b x ha hb => ?_
          · simp only [Instr.mapUpdate, Sem.run_bind, run_underlying hu, e', Result.andThen_ok, hg, hc, hf, Nat.zero_add, q2', Option.map_some, Option.getD_some, q3, hstay, hset]
          · rw [Array.getElem?_modify] at hb
            by_cases hij : j = i
            · subst hij
              rw [List.getElem?_set_self q6] at ha; cases ha
              rw [if_pos rfl, q2'] at hb; cases hb
              exact ⟨kk', kv⟩
            · rw [List.getElem?_set_ne hij] at ha
              rw [if_neg hij] at hb; exact h4 i a b x ha hb
      · cases ha
    · cases ha
  · cases ha

theorem ok_mkmap {t : TypeId} (ho : o.op = .makeMap t none) (ha : aop cf S ev .mkmap = some (v, S')) : Gives w0 φ S' v ((execOp ρ o).run P w) := by
  simp only [aop, Option.some.injEq, Prod.mk.injEq] at ha
  obtain ⟨rfl, rfl⟩ := ha
  refine ⟨φ.snoc ⟨w.heap.size, 0, 0, 0⟩, .map (some w.heap.size), w.alloc (.map #[] 0), .inl ?_, .snoc _ _, ?_, .map (p := ⟨w.heap.size, 0, 0, 0⟩) ?_⟩
  · simp [execOp, ho, Instr.makeMap]
  · refine (hr.grown (World.grownBy_alloc w _ _)).push (fun i q y hq hy ly => ?_) (hr.freshZ (Nat.le_refl _)) ?_
    · have := ((hr.obj i q y hq hy).lt ly).2; simp; omega
    · exact ⟨hr.below.size, #[], 0, heap_alloc_new w _, rfl, fun j k v e h => by simp at h⟩
  · rw [← hr.len]; simp [Pc.snoc]


theorem fold_max {k : IntKind} {ws : List AV} : ∀ {cws : List Value} {x : Int} {v : AV}, mxA true (.int k x) ws = some v → Vs w0 φ ws cws → ∃ r, (cws.foldlM Builtin.max2 (Value.int k x)).run P w = .ok (.int k r) w ∧ v = .int k r := by
  induction ws with
  | nil => intro cws x v h k'; cases h; have : cws = [] := List.eq_nil_of_length_eq_zero k'.1.symm; subst this; exact ⟨x, by simp, rfl⟩
  | cons a ws ih =>
    intro cws x v h k'
    obtain ⟨cv, cws', rfl, h1, h2⟩ := k'.cons_inv
    cases a <;> simp only [mxA, reduceCtorEq] at h
    obtain ⟨r, q1, q2⟩ := ih h h2
    refine ⟨r, ?_, q2⟩
    rw [h1.int_inv]
    simp only [if_true] at q1
    simp only [List.foldlM_cons, Sem.run_bind, Builtin.max2, Sem.run_pure, Result.andThen_ok, q1]
theorem fold_min {k : IntKind} {ws : List AV} : ∀ {cws : List Value} {x : Int} {v : AV}, mxA false (.int k x) ws = some v → Vs w0 φ ws cws → ∃ r, (cws.foldlM Builtin.min2 (Value.int k x)).run P w = .ok (.int k r) w ∧ v = .int k r := by
  induction ws with
  | nil => intro cws x v h k'; cases h; have : cws = [] := List.eq_nil_of_length_eq_zero k'.1.symm; subst this; exact ⟨x, by simp, rfl⟩
  | cons a ws ih =>
    intro cws x v h k'
    obtain ⟨cv, cws', rfl, h1, h2⟩ := k'.cons_inv
    cases a <;> simp only [mxA, reduceCtorEq] at h
    obtain ⟨r, q1, q2⟩ := ih h h2
    refine ⟨r, ?_, q2⟩
    rw [h1.int_inv]
    simp only [Bool.false_eq_true, if_false] at q1
    simp only [List.foldlM_cons, Sem.run_bind, Builtin.min2, Sem.run_pure, Result.andThen_ok, q1]

theorem ok_mx {c : Call} {gt : Bool} (ho : o.op = .call c) (hcl : c.callee = .builtin (if gt then .max else .min)) {as : List AX} (hevs : Vs w0 φ (evs ev as) (c.args.toList.map ρ))
    (ha : aop cf S ev (.mx gt as) = some (v, S')) : Gives w0 φ S' v ((execOp ρ o).run P w) := by
  simp only [aop] at ha
  split at ha
  · rename_i a ws he
    obtain ⟨v', hm, hh⟩ := Option.map_eq_some_iff.1 ha; cases hh
    rw [he] at hevs
    obtain ⟨cv, cws, e1, h1, h2⟩ := hevs.cons_inv
    have hint : ∃ k x, a = .int k x ∨ (ws = [] ∧ v = a) := by
      cases ws with
      | nil => exact ⟨.i64, 0, .inr ⟨rfl, by cases hm; rfl⟩⟩
      | cons b ws => cases a <;> first | exact ⟨_, _, .inl rfl⟩ | (cases b <;> simp [mxA] at hm)
    obtain ⟨cs, hcs⟩ := call_builtin (P := P) hr hρ ho hcl e1
    obtain ⟨k, x, rfl | ⟨rfl, rfl⟩⟩ := hint
    · have e2 := h1.int_inv; subst e2
      cases gt with
      | true =>
        obtain ⟨r, q1, rfl⟩ := fold_max (P := P) (w := w) hr hρ hm h2
        refine gives_value hr ?_ (.int _ _)
        rw [hcs]; simp [builtin, Builtin.max_, q1]
      | false =>
        obtain ⟨r, q1, rfl⟩ := fold_min (P := P) (w := w) hr hρ hm h2
        refine gives_value hr ?_ (.int _ _)
        rw [hcs]; simp [builtin, Builtin.min_, q1]
    · have : cws = [] := List.eq_nil_of_length_eq_zero h2.1.symm
      subst this
      refine gives_value hr ?_ h1
      rw [hcs]; cases gt <;> simp [builtin, Builtin.min_, Builtin.max_]
  · cases ha

end

section fills
theorem fold_set (off : Nat) : ∀ (vs : List Value) (k : Nat) (cs : Array Value), off + k + vs.length ≤ cs.size →
    ((vs.zipIdx k).foldl (fun cs (p : Value × Nat) => cs.setIfInBounds (off + p.2) p.1) cs).toList = cs.toList.take (off + k) ++ vs ++ cs.toList.drop (off + k + vs.length)
  | [], k, cs, h => by simp
  | v :: vs, k, cs, h => by
    simp only [List.length_cons] at h
    rw [List.zipIdx_cons, List.foldl_cons, fold_set off vs (k + 1) _ (by simp; omega)]
    simp only [Array.toList_setIfInBounds, List.length_cons]
    have hlo : off + k < cs.toList.length := by simp; omega
    rw [show off + (k + 1) = off + k + 1 by omega, List.take_succ_eq_append_getElem (by simpa using hlo), List.take_set_of_le (Nat.le_refl _), List.getElem_set_self, List.drop_set_of_lt (by omega)]
    simp [List.append_assoc, Nat.add_assoc, Nat.add_comm 1]

variable {w0 : World} {φ : Pc} {ev : AX → AV} {ρ : Operand → Value} {tr : Operand → Option AX} (hρ : ∀ x ax, tr x = some ax → V w0 φ (ev ax) (ρ x))
include hρ
theorem fill_rel {place pl : Nat → Option (Nat × Nat)} (hpl : ∀ i q, pl i = some q → place i = some q) : ∀ (ps : List (Nat × Operand)) (aps : List (Nat × Nat × AX)) (cells cs : List AV) (cc : Array Value),
    partsOf tr pl ps = some aps → fillA ev cells aps = some cs → Vc w0 φ cells cc.toList → ∃ ccs, Instr.fill place cc (ps.map fun (i, x) => (i, ρ x)) = some ccs ∧ Vc w0 φ cs ccs.toList
  | [], aps, cells, cs, cc, h1, h2, h3 => by
    cases h1; cases h2; exact ⟨cc, rfl, h3⟩
  | (i, x) :: ps, aps, cells, cs, cc, h1, h2, h3 => by
    simp only [partsOf, Option.bind_eq_some_iff] at h1
    obtain ⟨⟨off, n⟩, hp, ax, hx, h1⟩ := h1
    split at h1
    · rename_i hn
      obtain ⟨aps', h4, rfl⟩ := Option.map_eq_some_iff.1 h1
      simp only [fillA] at h2
      split at h2
      · rename_i hb
        have hne : (ev ax).cells ≠ [] := fun e => by rw [e] at hb; simp at hb; omega
        have hv := (hρ _ _ hx).cells hne
        have hlen : (ρ x).cells.size = n := by have := hv.1.1; simp at this; omega
        have hcl := h3.1.1
        simp only [Array.length_toList] at hcl
        have hfold := fold_set off (ρ x).cells.toList 0 cc (by simp; omega)
        have hl2 : (ρ x).cells.toList.length = n := by simpa using hlen
        rw [hl2] at hfold
        simp only [Nat.add_zero] at hfold
        have hV : Vc w0 φ (cells.take off ++ (ev ax).cells ++ cells.drop (off + n)) (cc.toList.take off ++ (ρ x).cells.toList ++ cc.toList.drop (off + n)) :=
          ((h3.take off).append hv).append (h3.drop _)
        rw [← hfold] at hV
        obtain ⟨ccs, q1, q2⟩ := fill_rel hpl ps aps' _ cs _ h4 h2 hV
        refine ⟨ccs, ?_, q2⟩
        simp only [List.map_cons, Instr.fill, hpl _ _ hp]
        rw [if_neg (by simp [hlen]; omega)]
        rw [← q1]
        congr 1
        rw [← Array.foldl_toList, Array.toList_zipIdx]
      · cases h2
    · cases h1
end fills

section
variable {P : Program} {w0 w : World} {φ : Pc} {S S' : Store} {ev : AX → AV} {ρ : Operand → Value} {tr : Operand → Option AX} {cf : CallF} {o : Oper} {v : AV}
  (hr : Rel w0 φ S w) (hρ : ∀ x ax, tr x = some ax → V w0 φ (ev ax) (ρ x))

theorem places_eq {P : Program} : ∀ (fs : List Field) (pl : List (Nat × Nat)), places P fs = some pl → (fs.mapM fun f => (P.info? f.type).map fun i => (f.offset, i.size)) = some pl
  | [], pl, h => by cases h; rfl
  | f :: fs, pl, h => by
    simp only [places, Option.bind_eq_some_iff, Option.map_eq_some_iff] at h
    obtain ⟨i, hi, pl', h', rfl⟩ := h
    simp [List.mapM_cons, hi, places_eq fs pl' h']

theorem zero_info {t : TypeId} {cs : List AV} (h : zeroCells P t = some cs) : ∃ i z, P.info? t = some i ∧ i.zero = some z ∧ Vc w0 φ cs z.cells.toList := by
  unfold zeroCells at h
  simp only [Option.bind_eq_some_iff] at h
  obtain ⟨i, hi, z, hz, hc⟩ := h
  exact ⟨i, z, hi, hz, constSs_V hc⟩
theorem sz_info {t : TypeId} {n : Nat} (h : szOf P t = some n) : ∃ i, P.info? t = some i ∧ i.size = n ∧ 0 < n := by
  unfold szOf at h
  simp only [Option.bind_eq_some_iff] at h
  obtain ⟨i, hi, h⟩ := h
  split at h
  · cases h; exact ⟨i, hi, rfl, by assumption⟩
  · cases h

include hr hρ
theorem ok_build {t : TypeId} {ps : Array (Nat × Operand)} (ho : o.op = .build t ps) {ao : AOp} (hc : compOp P tr o.op = some ao) (ha : aop cf S ev ao = some (v, S')) : Gives w0 φ S' v ((execOp ρ o).run P w) := by
  rw [ho] at hc
  have run : ∀ cells, P.built t (ps.map fun (i, x) => (i, ρ x)).toList = some cells → (execOp ρ o).run P w = .ok (.value (.agg cells)) w := fun cells h => by
    have := run_build w t _ cells h
    simp only [execOp, ho, Sem.run_bind, this, Result.andThen_ok, Sem.run_pure]
  have map_eq : (ps.map fun (p : Nat × Operand) => (p.1, ρ p.2)).toList = ps.toList.map fun (p : Nat × Operand) => (p.1, ρ p.2) := by simp
  simp only [compOp] at hc
  split at hc
  · rename_i fs hu
    simp only [Option.bind_eq_some_iff, Option.map_eq_some_iff] at hc
    obtain ⟨z, hz, pl, hpl, aps, hps, rfl⟩ := hc
    obtain ⟨cs, hf, hh⟩ := Option.map_eq_some_iff.1 ha; cases hh
    obtain ⟨i, zv, hi, hzv, hV⟩ := zero_info (w0 := w0) (φ := φ) hz
    obtain ⟨ccs, q1, q2⟩ := fill_rel hρ (place := (pl.toArray[·]?)) (pl := (pl[·]?)) (fun i q h => by simpa using h) _ _ _ _ _ hps hf hV
    refine gives_value hr (run ccs ?_) (V.mkAgg q2)
    rw [map_eq]
    simp only [Program.built, hi, hu, hzv, places_eq _ _ hpl]
    exact q1
  · rename_i len e hu
    simp only [Option.bind_eq_some_iff, Option.map_eq_some_iff] at hc
    obtain ⟨z, hz, sz, hsz, aps, hps, rfl⟩ := hc
    obtain ⟨cs, hf, hh⟩ := Option.map_eq_some_iff.1 ha; cases hh
    obtain ⟨i, zv, hi, hzv, hV⟩ := zero_info (w0 := w0) (φ := φ) hz
    obtain ⟨ie, hie, rfl, _⟩ := sz_info hsz
    obtain ⟨ccs, q1, q2⟩ := fill_rel hρ (place := fun i => some (i * ie.size, ie.size)) (pl := fun i => some (i * ie.size, ie.size)) (fun i q h => h) _ _ _ _ _ hps hf hV
    refine gives_value hr (run ccs ?_) (V.mkAgg q2)
    rw [map_eq]
    simp only [Program.built, hi, hu, hzv, hie]
    exact q1
  · cases hc

end
end Go.Proofs.Ytmijfhepagobdaa.Avm
