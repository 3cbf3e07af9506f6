/- Code, results, functions: what the abstract machine runs, the machine runs. -/
import Derived.Test.YtmijfhepagobdaaA18
set_option linter.unusedVariables false
set_option linter.unusedSimpArgs false
set_option linter.unusedSectionVars false
namespace Go.Proofs.Ytmijfhepagobdaa.Avm
open Go.RowKit

def exitOf : AExit → Exit
  | .normal => .normal
  | .exit id => .exit id
  | .ret => .ret

section
variable {P : Program} {w0 : World} {gl : List Nat} {N : Nat} {cf : CallF} {n : Nat} (hmix : P.follows .mixedOrders = true) (hcf : CallOK P w0 cf)
include hmix hcf

/-- what a code does -/
def CodeOK (P : Program) (w0 : World) (gl : List Nat) (N : Nat) (cf : CallF) (n : Nat) (c : Code) : Prop :=
  ∀ (Q : Exit → Act → World → Prop) (φ : Pc) (a : Act) (w : World) (g : Frame) (S : Store) (ex : AExit) (g' : Frame) (S' : Store), exec cf n (compCode P gl N c) g S = some (ex, g', S') → Rel w0 φ S w → FRel w0 φ gl N g a →
    (∀ φ' a' w', Ext φ φ' → Rel w0 φ' S' w' → FRel w0 φ' gl N g' a' → Q (exitOf ex) a' w') → c.wp P Q a w

theorem cond_V {φ : Pc} {g : Frame} {a : Act} (ha : FRel w0 φ gl N g a) {x : Operand} {ax : AX} (hx : opd gl [] x = some ax) : V w0 φ (ev g [] ax) (a.eval x) := by
  cases x with
  | tmp t =>
    simp only [opd] at hx
    split at hx
    · rename_i h; cases hx; exact ha.slot t (by simpa using h)
    · simp at hx
  | const v =>
    simp only [opd, Option.map_eq_some_iff] at hx
    obtain ⟨b, hb, rfl⟩ := hx
    exact constAV_V hb
  | func f =>
    simp only [opd, Option.some.injEq] at hx; subst hx
    exact .fn (cvs := []) rfl fun j v cv h => by simp at h
  | global n => simp [opd] at hx

theorem code_ok : ∀ c : Code, CodeOK P w0 gl N cf n c := by
  intro c
  induction c with
  | skip =>
    intro Q φ a w g S ex g' S' h hr ha hQ
    simp only [compCode, exec, Option.some.injEq, Prod.mk.injEq] at h
    obtain ⟨rfl, rfl, rfl⟩ := h
    exact wp_skip (hQ φ a w (.refl _) hr ha)
  | region id ops draw =>
    intro Q φ a w g S ex g' S' h hr ha hQ
    simp only [compCode] at h
    exact region_ok hmix hcf h hr ha fun e => by subst e; exact hQ
  | seq x y ihx ihy =>
    intro Q φ a w g S ex g' S' h hr ha hQ
    simp only [compCode, exec] at h
    refine wp_seq ?_
    split at h
    · rename_i g1 S1 h1
      refine ihx _ φ a w g S .normal g1 S1 h1 hr ha fun φ1 a1 w1 hx1 hr1 ha1 => ?_
      exact ihy Q φ1 a1 w1 g1 S1 ex g' S' h hr1 ha1 fun φ2 a2 w2 hx2 => hQ φ2 a2 w2 (hx1.trans hx2)
    · rename_i r hne
      refine ihx _ φ a w g S ex g' S' h hr ha fun φ1 a1 w1 hx1 hr1 ha1 => ?_
      cases ex with
      | normal => exact absurd h (hne g' S')
      | exit id => exact hQ φ1 a1 w1 hx1 hr1 ha1
      | ret => exact hQ φ1 a1 w1 hx1 hr1 ha1
  | cond c x y ihx ihy =>
    intro Q φ a w g S ex g' S' h hr ha hQ
    simp only [compCode] at h
    cases hc : opd gl [] c with
    | none => rw [hc] at h; simp [exec] at h
    | some ax =>
      rw [hc] at h
      simp only [exec] at h
      have hV := cond_V hmix hcf ha hc
      split at h
      · rename_i he; rw [he] at hV
        exact wp_cond_true hV.bool_inv (ihx Q φ a w g S ex g' S' h hr ha hQ)
      · rename_i he; rw [he] at hV
        exact wp_cond_false hV.bool_inv (ihy Q φ a w g S ex g' S' h hr ha hQ)
      · cases h
  | block id c ih =>
    intro Q φ a w g S ex g' S' h hr ha hQ
    simp only [compCode, exec] at h
    refine wp_block ?_
    split at h
    · rename_i i g1 S1 h1
      split at h
      · rename_i hid
        cases h
        refine ih _ φ a w g S (.exit i) g' S' h1 hr ha fun φ1 a1 w1 hx1 hr1 ha1 => ?_
        simp only [exitOf, Exit.inBlock, hid, if_true]
        exact hQ φ1 a1 w1 hx1 hr1 ha1
      · rename_i hid
        cases h
        refine ih _ φ a w g S (.exit i) g' S' h1 hr ha fun φ1 a1 w1 hx1 hr1 ha1 => ?_
        simp only [exitOf, Exit.inBlock, hid, if_false]
        exact hQ φ1 a1 w1 hx1 hr1 ha1
    · rename_i r hne
      refine ih _ φ a w g S ex g' S' h hr ha fun φ1 a1 w1 hx1 hr1 ha1 => ?_
      cases ex with
      | normal => exact hQ φ1 a1 w1 hx1 hr1 ha1
      | exit id => exact absurd h (hne id g' S')
      | ret => exact hQ φ1 a1 w1 hx1 hr1 ha1
  | loop c ih =>
    intro Q φ a w g S ex g' S' h hr ha hQ
    simp only [compCode, exec] at h
    refine wp_loop_rounds n ?_
    have key : ∀ (m : Nat) (φ1 : Pc) (a1 : Act) (w1 : World) (g1 : Frame) (S1 : Store), loopA (exec cf n (compCode P gl N c)) m g1 S1 = some (ex, g', S') → Ext φ φ1 → Rel w0 φ1 S1 w1 → FRel w0 φ1 gl N g1 a1 → Code.rounds P c Q m a1 w1 := by
      intro m
      induction m with
      | zero => intro φ1 a1 w1 g1 S1 h1; simp [loopA] at h1
      | succ m ihm =>
        intro φ1 a1 w1 g1 S1 h1 hx1 hr1 ha1
        rw [rounds_succ]
        simp only [loopA] at h1
        split at h1
        · rename_i g2 S2 h2
          refine ih _ φ1 a1 w1 g1 S1 .normal g2 S2 h2 hr1 ha1 fun φ2 a2 w2 hx2 hr2 ha2 => ?_
          exact ihm φ2 a2 w2 g2 S2 h1 (hx1.trans hx2) hr2 ha2
        · rename_i r hne
          refine ih _ φ1 a1 w1 g1 S1 ex g' S' h1 hr1 ha1 fun φ2 a2 w2 hx2 hr2 ha2 => ?_
          cases ex with
          | normal => exact absurd h1 (hne g' S')
          | exit id => exact hQ φ2 a2 w2 (hx1.trans hx2) hr2 ha2
          | ret => exact hQ φ2 a2 w2 (hx1.trans hx2) hr2 ha2
    exact key n φ a w g S h (.refl _) hr ha
  | exit id =>
    intro Q φ a w g S ex g' S' h hr ha hQ
    simp only [compCode, exec, Option.some.injEq, Prod.mk.injEq] at h
    obtain ⟨rfl, rfl, rfl⟩ := h
    exact wp_exit (hQ φ a w (.refl _) hr ha)
  | ret =>
    intro Q φ a w g S ex g' S' h hr ha hQ
    simp only [compCode, exec, Option.some.injEq, Prod.mk.injEq] at h
    obtain ⟨rfl, rfl, rfl⟩ := h
    exact wp_ret (hQ φ a w (.refl _) hr ha)
  | _ => intro Q φ a w g S ex g' S' h; simp [compCode, exec] at h
end

/-! ### results -/
theorem res_ok {P : Program} {w0 w : World} {φ : Pc} {S : Store} {gl : List Nat} {N : Nat} {g : Frame} {a : Act} (hr : Rel w0 φ S w) (ha : FRel w0 φ gl N g a) : ∀ (rs : List ResultVar) (ars : List ARes) (vs : List AV),
    compRes P gl rs = some ars → resA g S ars = some vs →
    ∃ cvs : List Value, (rs.mapM fun | ResultVar.tmp t => (pure (a.tmps.getD t undef) : Sem Value) | ResultVar.cell b t => do loadVar t (← asAddr (a.tmps.getD b undef))).run P w = .ok cvs w ∧ Vs w0 φ vs cvs
  | [], ars, vs, h1, h2 => by
    cases h1; cases h2; exact ⟨[], by simp, .nil⟩
  | .tmp t :: rs, ars, vs, h1, h2 => by
    simp only [compRes] at h1
    split at h1
    · rename_i hg
      obtain ⟨ars', h3, rfl⟩ := Option.map_eq_some_iff.1 h1
      simp only [resA, Option.map_eq_some_iff] at h2
      obtain ⟨vs', h4, rfl⟩ := h2
      obtain ⟨cvs, q1, q2⟩ := res_ok hr ha rs ars' vs' h3 h4
      exact ⟨_ :: cvs, by rw [List.mapM_cons]; simp only [Sem.run_bind, Sem.run_pure, Result.andThen_ok, q1], .cons (ha.slot t (by simpa using hg)) q2⟩
    · cases h1
  | .cell b t :: rs, ars, vs, h1, h2 => by
    simp only [compRes] at h1
    split at h1
    · rename_i hg
      simp only [Option.bind_eq_some_iff, Option.map_eq_some_iff] at h1
      obtain ⟨bb, hb, n, hn, ars', h3, rfl⟩ := h1
      simp only [resA, Option.bind_eq_some_iff, Option.map_eq_some_iff] at h2
      obtain ⟨v, hv, vs', h4, rfl⟩ := h2
      obtain ⟨cvs, q1, q2⟩ := res_ok hr ha rs ars' vs' h3 h4
      have hV := ha.slot b (by simpa using hg)
      have hs := run_size (w := w) hn
      have hag := run_agg (w := w) hb
      cases bb with
      | true =>
        obtain ⟨ad, cvs', cs, e, rfl, k1, k2, k3⟩ := loadable_agg hr hV hv
        have := run_loadCells_list (P := P) w ad cvs' k3
        rw [k1] at this
        have had : (asAddr (a.tmps.getD b undef)).run P w = .ok ad w := by rw [e]; simp [asAddr]
        have hlv : (loadVar t ad).run P w = .ok (.agg cvs'.toArray) w := by simp only [loadVar, Sem.run_bind, hag, if_true, hs.1, this, Result.andThen_ok, Sem.run_pure]
        exact ⟨.agg cvs'.toArray :: cvs, by rw [List.mapM_cons]; simp only [Sem.run_bind, had, hlv, Result.andThen_ok, q1, Sem.run_pure], .cons (V.mkAgg k2) q2⟩
      | false =>
        obtain ⟨ad, cv, e, k1, k2⟩ := loadable_one hr hV hv
        have had : (asAddr (a.tmps.getD b undef)).run P w = .ok ad w := by rw [e]; simp [asAddr]
        have hlv : (loadVar t ad).run P w = .ok cv w := by simp [loadVar, hag, k2]
        exact ⟨cv :: cvs, by rw [List.mapM_cons]; simp only [Sem.run_bind, had, hlv, Result.andThen_ok, q1, Sem.run_pure], .cons k1 q2⟩
    · cases h1

theorem one_V {w0 : World} {φ : Pc} {vs : List AV} {cvs : List Value} (h : Vs w0 φ vs cvs) : V w0 φ (oneOrTup vs) (if h : cvs.toArray.size = 1 then cvs.toArray[0] else .tuple cvs.toArray) := by
  have hl := h.1
  match vs, cvs, hl with
  | [], [], _ => exact .tup h.1 h.2
  | [v], [cv], _ => exact h.2 0 v cv rfl rfl
  | v :: v' :: vs, cv :: cv' :: cvs, _ => 
    have : ¬ ((cv :: cv' :: cvs).toArray.size = 1) := by simp
    rw [dif_neg this]; exact .tup h.1 h.2

/-! ### functions -/
/-- an environment is the program's -/
structure EnvOK (P : Program) (w0 : World) (E : Env) : Prop where
  fn : ∀ f fn, E.F f = some fn → ∃ gl pf, P.funcs[f]? = some pf ∧ compF P gl pf = some fn
  prim : ∀ f p, E.prim f = some p → ∀ cf, CallOK P w0 cf → ∀ (args : List AV) (S : Store) (v : AV) (S' : Store), p cf args S = some (v, S') → ∀ (φ : Pc) (w : World) (vs : List Value), Rel w0 φ S w → Vs w0 φ args vs →
    Does P w0 φ S' v ((callFunc f vs.toArray).run P w)

theorem run_ok {P : Program} {w0 : World} {E : Env} (hmix : P.follows .mixedOrders = true) (hE : EnvOK P w0 E) : ∀ n, CallOK P w0 (run E n) := by
  intro n
  induction n with
  | zero => intro f args S v S' h; simp [run] at h
  | succ n ih =>
    intro f args S v S' h φ w vs hr hv
    simp only [run] at h
    split at h
    · rename_i p hp
      exact hE.prim f p hp _ ih args S v S' h φ w vs hr hv
    · split at h
      · rename_i fn hfn
        obtain ⟨gl, pf, hpf, hc⟩ := hE.fn f fn hfn
        unfold compF at hc
        split at hc
        · rename_i c rs hb hrs
          simp only at hc
          split at hc
          · rename_i hok
            cases hc
            simp only [Bool.and_eq_true, decide_eq_true_eq, bne_iff_ne, ne_eq] at hok
            split at h
            · rename_i hal
              split at h
              · cases h
              · rename_i ex g1 S1 hnex hex
                obtain ⟨rvs, hres, hh⟩ := Option.map_eq_some_iff.1 h
                cases hh
                refine .inr ⟨f, vs.toArray, w, by simp [callFunc, hpf, hok.2, hb], ?_⟩
                refine calls_of_wp hpf hb ?_
                have hsz : vs.length = pf.params.size + pf.nfree := by rw [← hv.1]; exact hal
                refine code_ok hmix ih c _ φ _ w (initA args) S ex g1 _ hex hr ⟨?_, rfl, fun t ht => ?_⟩ fun φ' a' w' hx hr' ha' => ?_
                · simp; omega
                · simp only [initA]
                  by_cases htl : t < vs.length
                  · have h1 : (vs.toArray ++ Array.replicate (pf.ntmps - vs.toArray.size) undef).getD t undef = vs[t] := by
                      rw [Array.getD_eq_getD_getElem?, Array.getElem?_append_left (by simpa using htl)]; simp [htl]
                    rw [h1, List.getD_eq_getElem?_getD, List.getElem?_eq_getElem (by rw [hv.1]; exact htl)]
                    exact hv.2 t _ _ (List.getElem?_eq_getElem (by rw [hv.1]; exact htl)) (List.getElem?_eq_getElem htl)
                  · have h1 : (vs.toArray ++ Array.replicate (pf.ntmps - vs.toArray.size) undef).getD t undef = undef := by
                      rw [Array.getD_eq_getD_getElem?, Array.getElem?_append_right (by simpa using htl), Array.getElem?_replicate]
                      split <;> rfl
                    rw [h1, List.getD_eq_getElem?_getD, List.getElem?_eq_none (by rw [hv.1]; omega)]
                    exact .undef
                · obtain ⟨cvs, q1, q2⟩ := res_ok (P := P) hr' ha' _ _ _ hrs hres
                  have hfin : a'.defers = [] ∧ ∃ v, (results pf a'.tmps).run P w' = .ok v w' ∧ Back w0 φ S' (oneOrTup rvs) (.returned v) w' := by
                    refine ⟨ha'.defers, _, ?_, φ', _, rfl, hx, hr', one_V q2⟩
                    unfold results
                    rw [Array.mapM_eq_mapM_toList]
                    simp only [map_eq_pure_bind, bind_assoc, Sem.run_bind, Sem.run_pure, pure_bind]
                    exact congrArg (fun r : Result (List Value) => r.andThen fun a w' => Result.ok (if h : a.toArray.size = 1 then a.toArray[0] else Value.tuple a.toArray) w') q1
                  cases ex with
                  | normal => exact hfin
                  | ret => exact hfin
                  | exit id => exact (hnex id rfl).elim
              · cases h
            · cases h
          · cases hc
        · cases hc
      · cases h

end Go.Proofs.Ytmijfhepagobdaa.Avm
