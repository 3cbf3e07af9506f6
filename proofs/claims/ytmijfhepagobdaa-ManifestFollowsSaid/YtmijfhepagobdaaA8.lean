/- Structs compared, conversions, cuts, lengths, lookups, greatest and least, structs built. -/
import Derived.Test.YtmijfhepagobdaaA7
set_option linter.unusedVariables false
set_option linter.unusedSimpArgs false
set_option linter.unusedSectionVars false
namespace Go.Proofs.Ytmijfhepagobdaa.Avm
open Go.RowKit

theorem aeq1_run {P : Program} {w0 w : World} {φ : Pc} {k : Nat} {a b : AV} {ca cb : Value} {t : TypeId} {r : Bool}
    (ht : (match P.underlying t with | some (.int _) => some 0 | some .string => some 1 | some .bool => some 2 | _ => none) = some k)
    (h : aeq1 k a b = some r) (ka : V w0 φ a ca) (kb : V w0 φ b cb) (d : Nat) : (Op.equalIn (d + 1) t ca cb).run P w = .ok r w := by
  unfold aeq1 at h
  split at h
  · rename_i i x j y
    have := ka.int_inv; have := kb.int_inv; subst ca cb
    split at ht <;> simp only [Option.some.injEq, reduceCtorEq, Nat.reduceEqDiff] at ht
    rename_i q hu
    split at h
    · rename_i hij; subst hij; cases h
      rw [run_equalIn_int w d t i q x y hu]
      congr 1
    · cases h
  · rename_i x y
    have := ka.str_inv; have := kb.str_inv; subst ca cb
    split at ht <;> simp only [Option.some.injEq, reduceCtorEq, Nat.reduceEqDiff] at ht
    rename_i hu
    cases h
    rw [run_equalIn_string w d t _ _ hu]
    simp only [ByteArray.toList_eq, beqd]
  · rename_i x y
    have := ka.bool_inv; have := kb.bool_inv; subst ca cb
    split at ht <;> simp only [Option.some.injEq, reduceCtorEq, Nat.reduceEqDiff] at ht
    rename_i hu
    cases h
    exact run_equalIn_bool' w d t x y hu
  · cases h

theorem part_scalar {P : Program} {w : World} {t : TypeId} {k : Nat} (ht : (match P.underlying t with | some (.int _) => some 0 | some .string => some 1 | some .bool => some 2 | _ => none) = some k)
    {xs : Array Value} {i : Nat} {cv : Value} (h : xs[i]? = some cv) : (part t xs i).run P w = .ok cv w := by
  split at ht <;> simp only [Option.some.injEq, reduceCtorEq] at ht
  all_goals (rename_i hu; simp [part, isAgg, run_underlying hu, h])

theorem fields_run {P : Program} {w0 w : World} {φ : Pc} {xs ys : List AV} {cx cy : List Value} (hx : Vs w0 φ xs cx) (hy : Vs w0 φ ys cy) (d : Nat) : ∀ (fs : List Field) (i : Nat) (ks : List Nat) (r : Bool),
    scalarFields P i fs = some ks → aeqs ks (xs.drop i) (ys.drop i) = some r → (Op.eqFields (d + 1) cx.toArray cy.toArray fs).run P w = .ok r w := by
  intro fs
  induction fs with
  | nil =>
    intro i ks r h1 h2
    simp only [scalarFields, Option.some.injEq] at h1; subst h1
    unfold aeqs at h2
    split at h2 <;> simp_all [Op.eqFields]
  | cons f fs ih =>
    intro i ks r h1 h2
    simp only [scalarFields] at h1
    split at h1
    · rename_i hf
      obtain ⟨k, hk, h1⟩ := Option.bind_eq_some_iff.1 h1
      obtain ⟨ks', h3, rfl⟩ := Option.map_eq_some_iff.1 h1
      cases hxd : xs.drop i with
      | nil => rw [hxd] at h2; simp [aeqs] at h2
      | cons a as =>
        cases hyd : ys.drop i with
        | nil => rw [hxd, hyd] at h2; simp [aeqs] at h2
        | cons b bs =>
          rw [hxd, hyd] at h2
          simp only [aeqs] at h2
          obtain ⟨q, hq, h2⟩ := Option.bind_eq_some_iff.1 h2
          have ha : xs[i]? = some a := by have := congrArg (·[0]?) hxd; simpa [List.getElem?_drop] using this
          have hb : ys[i]? = some b := by have := congrArg (·[0]?) hyd; simpa [List.getElem?_drop] using this
          have has : as = xs.drop (i + 1) := by rw [← List.drop_drop, hxd]; rfl
          have hbs : bs = ys.drop (i + 1) := by rw [← List.drop_drop, hyd]; rfl
          obtain ⟨ca, e1, k1⟩ := hx.get ha
          obtain ⟨cb, e2, k2⟩ := hy.get hb
          have p1 := part_scalar (w := w) hk (xs := cx.toArray) (i := i) (by simpa using e1)
          have p2 := part_scalar (w := w) hk (xs := cy.toArray) (i := i) (by simpa using e2)
          have p3 := aeq1_run (w := w) hk hq k1 k2 d
          simp only [Op.eqFields, if_pos hf.2, hf.1, Sem.run_bind, p1, p2, p3, Result.andThen_ok]
          cases q with
          | false => simp only [Bool.false_eq_true, if_false, Option.some.injEq] at h2; subst h2; simp
          | true =>
            simp only [if_true] at h2
            rw [has, hbs] at h2
            simpa using ih (i + 1) ks' r h3 h2
    · cases h1

/-- structs of scalars, compared -/
theorem struct_eq {P : Program} {w0 w : World} {φ : Pc} {t : TypeId} {ks : List Nat} (hs : scalarStruct P t = some ks) {xs ys : List AV} {cx cy : List Value} (hx : Vs w0 φ xs cx) (hy : Vs w0 φ ys cy) {r : Bool} (h : aeqs ks xs ys = some r) (d : Nat) :
    (Op.equalIn (d + 2) t (.agg cx.toArray) (.agg cy.toArray)).run P w = .ok r w ∧ P.eqGuardType P.depth t = false := by
  unfold scalarStruct at hs
  split at hs
  · rename_i fs hu
    split at hs
    · rename_i hh
      have hf : P.fieldsOf t = fs := by simp [Program.fieldsOf, hu]
      refine ⟨?_, hh.2⟩
      rw [run_equalIn_struct w (d + 1) t _ _ (by rw [hf]; exact hu) hh.1, hf]
      exact fields_run hx hy d fs.toList 0 ks r hs (by simpa using h)
    · cases hs
  · cases hs

section
variable {P : Program} {w0 w : World} {φ : Pc} {S S' : Store} {ev : AX → AV} {ρ : Operand → Value} {tr : Operand → Option AX} {cf : CallF} {o : Oper} {v : AV}
  (hr : Rel w0 φ S w) (hρ : ∀ x ax, tr x = some ax → V w0 φ (ev ax) (ρ x))
include hr hρ

theorem ok_eqs {op : BinOp} {t u : TypeId} {x y : Operand} (ho : o.op = .binOp op t x y u) {neg : Bool} {ks : List Nat} {ax ay : AX} (hop : op = if neg then .neq else .eql) (hu : scalarStruct P t = some ks) (hx : tr x = some ax) (hy : tr y = some ay)
    (ha : aop cf S ev (.eqs neg ks ax ay) = some (v, S')) : Gives w0 φ S' v ((execOp ρ o).run P w) := by
  have kx := hρ _ _ hx; have ky := hρ _ _ hy
  simp only [aop] at ha
  split at ha
  · rename_i a b he1 he2
    rw [he1] at kx; rw [he2] at ky
    obtain ⟨cx, e1, h1⟩ := kx.agg_inv; obtain ⟨cy, e2, h2⟩ := ky.agg_inv
    split at ha
    · obtain ⟨r, hq, hh⟩ := Option.map_eq_some_iff.1 ha; cases hh
      have he := struct_eq (w := w) hu h1.1 h2.1 hq 9998
      have hg := run_eqGuard_agg (P := P) w op t x y cx.toArray cy.toArray he.2
      refine gives_value hr (cv := .bool (if neg then !r else r)) ?_ (.bool _)
      subst hop
      cases neg
      · simp only [Bool.false_eq_true, if_false] at ho hg ⊢
        simp [execOp, ho, e1, e2, hg, run_eql_struct, he.1]
      · simp only [if_true] at ho hg ⊢
        simp [execOp, ho, e1, e2, hg, run_neq_struct, he.1]
    · cases ha
  · cases ha

theorem ok_i2i {s d : TypeId} {x : Operand} (ho : o.op = .convert s d x) {i k : IntKind} {ax : AX} (hs : P.underlying s = some (.int i)) (hd : P.underlying d = some (.int k)) (hx : tr x = some ax)
    (ha : aop cf S ev (.i2i k ax) = some (v, S')) : Gives w0 φ S' v ((execOp ρ o).run P w) := by
  have kx := hρ _ _ hx
  simp only [aop] at ha
  split at ha
  · rename_i q n he
    rw [he] at kx; have e := kx.int_inv
    cases ha
    exact gives_value hr (by simp [execOp, ho, e, convert, run_underlying hs, run_underlying hd, Conv.intToInt]) (.int _ _)
  · cases ha

theorem ok_same {s d : TypeId} {x : Operand} (ho : o.op = .convert s d x) {ax : AX} (hs : P.underlying s = some .string) (hd : P.underlying d = some .string) (hx : tr x = some ax)
    (ha : aop cf S ev (.same ax) = some (v, S')) : Gives w0 φ S' v ((execOp ρ o).run P w) := by
  have kx := hρ _ _ hx
  simp only [aop] at ha
  split at ha
  · rename_i q he
    rw [he] at kx; have e := kx.str_inv
    cases ha
    exact gives_value hr (by simp [execOp, ho, e, convert, run_underlying hs, run_underlying hd]) (.str' _)
  · cases ha

theorem size_mk (l : List UInt8) : (⟨l.toArray⟩ : ByteArray).size = l.length := rfl
theorem call_builtin {c : Call} {b : Builtin} (ho : o.op = .call c) (hcl : c.callee = .builtin b) {vs : List Value} (hvs : c.args.toList.map ρ = vs) :
    ∃ cs, (execOp ρ o).run P w = (builtin b c.argTypes o.type cs vs.toArray).run P w := by
  have : c.args.map ρ = vs.toArray := by rw [← hvs, ← Array.toList_map, Array.toArray_toList]
  exact ⟨_, by simp only [execOp, ho, resolve, hcl, this, Sem.run_bind, Sem.run_pure, Result.andThen_ok, invoke]; rfl⟩

theorem ok_len {c : Call} {x : Operand} {t : TypeId} (ho : o.op = .call c) (hcl : c.callee = .builtin .len) (hcx : c.args.toList = [x]) (ht : c.argTypes[0]? = some t) {b : Bool} {ax : AX} (hx : tr x = some ax)
    (hu : if b then P.underlying t = some .string else ∃ e, P.underlying t = some (.slice e)) (ha : aop cf S ev (.len b ax) = some (v, S')) : Gives w0 φ S' v ((execOp ρ o).run P w) := by
  have kx := hρ _ _ hx
  have run : ∀ r, (Builtin.len_ c.argTypes o.type #[ρ x]).run P w = .ok r w → (execOp ρ o).run P w = .ok (.value r) w := fun r hr' => by
    obtain ⟨cs, hcs⟩ := call_builtin (P := P) hr hρ ho hcl (vs := [ρ x]) (by rw [hcx]; rfl)
    rw [hcs]; simp [builtin, hr']
  simp only [aop] at ha
  split at ha
  · rename_i s he
    rw [he] at kx; have e := kx.str_inv; cases ha
    rw [if_pos rfl] at hu
    exact gives_value hr (run (.int .i64 s.length) (by simp only [Builtin.len_, ht, e, Sem.run_bind, run_underlying hu, goInt, List.getElem?_toArray, List.getElem?_cons_zero, Result.andThen_ok, Sem.run_pure]; rfl)) (.int _ _)
  · rename_i he
    rw [he] at kx; have e := kx.nilS_inv; cases ha
    rw [if_neg (by simp)] at hu; obtain ⟨el, hu⟩ := hu
    exact gives_value hr (run (.int .i64 0) (by simp [Builtin.len_, ht, e, run_underlying hu, goInt])) (.int _ _)
  · rename_i he
    rw [he] at kx; obtain ⟨b', e⟩ := kx.emp_inv; cases ha
    rw [if_neg (by simp)] at hu; obtain ⟨el, hu⟩ := hu
    exact gives_value hr (run (.int .i64 0) (by simp [Builtin.len_, ht, e, run_underlying hu, goInt])) (.int _ _)
  · rename_i he
    rw [he] at kx; obtain ⟨a', c', e⟩ := kx.nsl_inv; cases ha
    rw [if_neg (by simp)] at hu; obtain ⟨el, hu⟩ := hu
    exact gives_value hr (run (.int .i64 0) (by simp [Builtin.len_, ht, e, run_underlying hu, goInt])) (.int _ _)
  · rename_i cs n he
    rw [he] at kx; cases ha
    rw [if_neg (by simp)] at hu; obtain ⟨el, hu⟩ := hu
    obtain ⟨a, c', cvs, e, _⟩ | ⟨_, rfl, e⟩ := kx.csl_inv
    · exact gives_value hr (run (.int .i64 n) (by simp [Builtin.len_, ht, e, run_underlying hu, goInt])) (.int _ _)
    · exact gives_value hr (run (.int .i64 0) (by simp [Builtin.len_, ht, e, run_underlying hu, goInt])) (.int _ _)
  · rename_i id off n sz he
    rw [he] at kx; obtain ⟨a, c', p, e, _⟩ := kx.sl_inv; cases ha
    rw [if_neg (by simp)] at hu; obtain ⟨el, hu⟩ := hu
    exact gives_value hr (run (.int .i64 n) (by simp [Builtin.len_, ht, e, run_underlying hu, goInt])) (.int _ _)
  · rename_i id off n c sz he
    rw [he] at kx; obtain ⟨a, p, e, _⟩ := kx.slc_inv; cases ha
    rw [if_neg (by simp)] at hu; obtain ⟨el, hu⟩ := hu
    exact gives_value hr (run (.int .i64 n) (by simp [Builtin.len_, ht, e, run_underlying hu, goInt])) (.int _ _)
  · cases ha

/-- an optional bound -/
theorem opt_run {d : Int} {x : Option Operand} {ax : Option AX} {l : Int} (hx : trO tr x = some ax) (h : optInt ev d ax = some l) :
    match x with | none => l = d | some y => ∃ k, ρ y = .int k l := by
  cases x with
  | none => simp only [trO, Option.some.injEq] at hx; subst hx; simpa [optInt] using h.symm
  | some y =>
    simp only [trO, Option.map_eq_some_iff] at hx
    obtain ⟨a, hy, rfl⟩ := hx
    have k := hρ _ _ hy
    simp only [optInt] at h
    split at h
    · rename_i q n he; rw [he] at k; cases h; exact ⟨q, k.int_inv⟩
    · cases h

theorem run_bound {x : Value} {k : IntKind} {i : Int} {y : Nat} {code : BoundsCode} (e : x = .int k i) (h0 : 0 ≤ i) (h1 : i ≤ y) : (Instr.sliceBound x y code).run P w = .ok i.toNat w := by
  subst e; simp [Instr.sliceBound, asIntOf, h0, h1]

theorem run_bounds {lo hi mx : Option Operand} {alo ahi amx : Option AX} {isS : Bool} {len cap : Nat} {l h m : Int} (hlo : trO tr lo = some alo) (hhi : trO tr hi = some ahi) (hmx : trO tr mx = some amx)
    (el : optInt ev 0 alo = some l) (eh : optInt ev len ahi = some h) (em : optInt ev cap amx = some m) (h0 : 0 ≤ l) (h1 : l ≤ h) (h2 : h ≤ m) (h3 : m ≤ cap) (hh : mx.isNone ∨ hi.isSome) :
    (Instr.sliceBounds isS len cap (lo.map ρ) (hi.map ρ) (mx.map ρ)).run P w = .ok (l.toNat, h.toNat, m.toNat) w := by
  have a := opt_run hr hρ hlo el
  have b := opt_run hr hρ hhi eh
  have c := opt_run hr hρ hmx em
  have q1 : l ≤ (h.toNat : Int) := by omega
  have q2 : h ≤ (m.toNat : Int) := by omega
  have r1 : ∀ y code, ρ y = .int code l → ∀ (z : Nat) bc, l ≤ (z : Int) → (Instr.sliceBound (ρ y) z bc).run P w = .ok l.toNat w := fun y k e z bc hz => run_bound hr hρ e h0 hz
  have r2 : ∀ y code, ρ y = .int code h → ∀ (z : Nat) bc, h ≤ (z : Int) → (Instr.sliceBound (ρ y) z bc).run P w = .ok h.toNat w := fun y k e z bc hz => run_bound hr hρ e (by omega) hz
  have r3 : ∀ y code, ρ y = .int code m → ∀ (z : Nat) bc, m ≤ (z : Int) → (Instr.sliceBound (ρ y) z bc).run P w = .ok m.toNat w := fun y k e z bc hz => run_bound hr hρ e (by omega) hz
  cases mx with
  | none =>
    simp only at c; subst c
    cases hi with
    | none =>
      simp only at b; subst b
      cases lo with
      | none => simp only at a; subst a; simp [Instr.sliceBounds]
      | some y => obtain ⟨k, e⟩ := a; simp [Instr.sliceBounds, r1 y k e _ _ h1]
    | some y2 =>
      obtain ⟨k2, e2⟩ := b
      cases lo with
      | none => simp only at a; subst a; simp [Instr.sliceBounds, r2 y2 k2 e2 _ _ h2]
      | some y => obtain ⟨k, e⟩ := a; simp [Instr.sliceBounds, r2 y2 k2 e2 _ _ h2, r1 y k e _ _ q1]
  | some y3 =>
    obtain ⟨k3, e3⟩ := c
    cases hi with
    | none => simp at hh
    | some y2 =>
      obtain ⟨k2, e2⟩ := b
      cases lo with
      | none => simp only at a; subst a; simp [Instr.sliceBounds, r3 y3 k3 e3 _ _ h3, r2 y2 k2 e2 _ _ q2]
      | some y => obtain ⟨k, e⟩ := a; simp [Instr.sliceBounds, r3 y3 k3 e3 _ _ h3, r2 y2 k2 e2 _ _ q2, r1 y k e _ _ q1]

theorem ok_sslice {t : TypeId} {x : Operand} {lo hi : Option Operand} {alo ahi : Option AX} {ax : AX} (ho : o.op = .slice t x lo hi none) (hu : P.underlying t = some .string) (hx : tr x = some ax) (hlo : trO tr lo = some alo) (hhi : trO tr hi = some ahi)
    (ha : aop cf S ev (.sslice ax alo ahi) = some (v, S')) : Gives w0 φ S' v ((execOp ρ o).run P w) := by
  have kx := hρ _ _ hx
  simp only [aop] at ha
  split at ha
  · rename_i s he
    rw [he] at kx; have e := kx.str_inv
    simp only [Option.bind_eq_some_iff] at ha
    obtain ⟨l, el, h, eh, ha⟩ := ha
    split at ha
    · rename_i hb
      cases ha
      have := run_bounds (P := P) (w := w) hr hρ (isS := false) (len := s.length) (cap := s.length) (m := s.length) hlo hhi (mx := none) (amx := none) rfl el eh rfl hb.1 hb.2.1 hb.2.2 (Int.le_refl _) (.inl rfl)
      simp only [Option.map_none] at this
      refine gives_value hr (cv := .string ((⟨s.toArray⟩ : ByteArray).extract l.toNat h.toNat)) ?_ ?_
      · have this : (Instr.sliceBounds false (⟨s.toArray⟩ : ByteArray).size (⟨s.toArray⟩ : ByteArray).size (lo.map ρ) (hi.map ρ) none).run P w = .ok (l.toNat, h.toNat, ((s.length : Int)).toNat) w := this
        simp only [execOp, ho, Instr.sliceAt, Sem.run_bind, run_underlying hu, Result.andThen_ok, Instr.slice, e, Option.map_none, Option.isSome_none, Bool.false_eq_true, if_false, this, Sem.run_pure, pure_bind]
      · have : ((⟨s.toArray⟩ : ByteArray).extract l.toNat h.toNat) = ⟨((s.drop l.toNat).take (h.toNat - l.toNat)).toArray⟩ := by
          apply WideShapes.bytes_inj
          rw [ByteArray.data_extract]
          simp [List.extract_eq_drop_take', List.take_drop]
        rw [this]; exact .str' _
    · cases ha
  · cases ha
end
end Go.Proofs.Ytmijfhepagobdaa.Avm
