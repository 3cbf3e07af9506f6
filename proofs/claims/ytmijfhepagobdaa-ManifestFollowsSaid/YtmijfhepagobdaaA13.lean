/- Any operation: the machine does what the abstract machine does; calls. -/
import Derived.Test.YtmijfhepagobdaaA12
import Derived.Conc.MuLone
set_option linter.unusedVariables false
set_option linter.unusedSimpArgs false
set_option linter.unusedSectionVars false
namespace Go.Proofs.Ytmijfhepagobdaa.Avm
open Go.RowKit

/-- what a call leaves -/
def Back (w0 : World) (φ : Pc) (S' : Store) (v : AV) (e : Ending) (w' : World) : Prop :=
  ∃ φ' cv, e = .returned cv ∧ Ext φ φ' ∧ Rel w0 φ' S' w' ∧ V w0 φ' v cv
def Does (P : Program) (w0 : World) (φ : Pc) (S' : Store) (v : AV) (r : Result Next) : Prop :=
  Gives w0 φ S' v r ∨ ∃ f args w, r = .ok (.enter f args) w ∧ Calls P f args w (Back w0 φ S' v)
/-- what is told of calls is so -/
def CallOK (P : Program) (w0 : World) (cf : CallF) : Prop :=
  ∀ (f : Nat) (args : List AV) (S : Store) (v : AV) (S' : Store), cf f args S = some (v, S') → ∀ (φ : Pc) (w : World) (vs : List Value), Rel w0 φ S w → Vs w0 φ args vs →
    Does P w0 φ S' v ((callFunc f vs.toArray).run P w)

section
variable {P : Program} {w0 w : World} {φ : Pc} {S S' : Store} {ev : AX → AV} {ρ : Operand → Value} {tr : Operand → Option AX} {cf : CallF} {o : Oper} {v : AV}

theorem evs_V (hρ : ∀ x ax, tr x = some ax → V w0 φ (ev ax) (ρ x)) : ∀ (xs : List Operand) (axs : List AX), trs tr xs = some axs → Vs w0 φ (evs ev axs) (xs.map ρ)
  | [], axs, h => by cases h; exact .nil
  | x :: xs, axs, h => by
    simp only [trs, Option.bind_eq_some_iff, Option.map_eq_some_iff] at h
    obtain ⟨a, ha, axs', h', rfl⟩ := h
    exact .cons (hρ _ _ ha) (evs_V hρ xs axs' h')

variable (hr : Rel w0 φ S w) (hρ : ∀ x ax, tr x = some ax → V w0 φ (ev ax) (ρ x)) (hfn : ∀ f, ρ (.func f) = .func (.func f) #[] #[]) (hcf : CallOK P w0 cf)
include hr hρ hfn hcf

theorem ok_call {c : Call} (ho : o.op = .call c) {ao : AOp} (hc : compCall P tr c = some ao) (ha : aop cf S ev ao = some (v, S')) : Does P w0 φ S' v ((execOp ρ o).run P w) := by
  have hargs : c.args.map ρ = (c.args.toList.map ρ).toArray := by rw [← Array.toList_map, Array.toArray_toList]
  unfold compCall at hc
  split at hc
  · rename_i f hcl
    obtain ⟨axs, has, rfl⟩ := Option.map_eq_some_iff.1 hc
    have hv := evs_V hρ _ _ has
    have := hcf f _ S v S' ha φ w _ hr hv
    have hx : (execOp ρ o).run P w = (callFunc f (c.args.toList.map ρ).toArray).run P w := by
      simp only [execOp, ho, resolve, hcl, Deferred.ofValue, hfn, Sem.run_bind, Sem.run_pure, Result.andThen_ok, invoke, hargs]
      simp
    rw [hx]; exact this
  · rename_i x hnf hcl
    simp only [Option.bind_eq_some_iff, Option.map_eq_some_iff] at hc
    obtain ⟨ax, hx, axs, has, rfl⟩ := hc
    have hv := evs_V hρ _ _ has
    have kx := hρ _ _ hx
    simp only [aop] at ha
    split at ha
    · rename_i f cap he
      rw [he] at kx
      obtain ⟨cvs, e', hcap⟩ := kx.fn_inv
      have := hcf f _ S v S' ha φ w _ hr (hv.append hcap)
      have hx : (execOp ρ o).run P w = (callFunc f (c.args.toList.map ρ ++ cvs).toArray).run P w := by
        simp only [execOp, ho, resolve, hcl, Deferred.ofValue, e', Sem.run_bind, Sem.run_pure, Result.andThen_ok, invoke, hargs]
        simp
      rw [hx]; exact this
    · cases ha
  · rename_i hcl
    split at hc
    · rename_i x hcx hu
      obtain ⟨t, ht, hu⟩ := Option.bind_eq_some_iff.1 hu
      obtain ⟨ax, hx, rfl⟩ := Option.map_eq_some_iff.1 hc
      exact .inl (ok_len hr hρ ho hcl hcx ht hx (by simpa using hu) ha)
    · rename_i x e hcx hu
      obtain ⟨t, ht, hu⟩ := Option.bind_eq_some_iff.1 hu
      obtain ⟨ax, hx, rfl⟩ := Option.map_eq_some_iff.1 hc
      exact .inl (ok_len hr hρ ho hcl hcx ht hx (by simpa using ⟨e, hu⟩) ha)
    · rename_i x k e hcx hu
      obtain ⟨t, ht, hu⟩ := Option.bind_eq_some_iff.1 hu
      obtain ⟨ax, hx, rfl⟩ := Option.map_eq_some_iff.1 hc
      exact .inl (ok_mlen hr hρ ho hcl hcx ht hu hx ha)
    · cases hc
  · rename_i hcl
    split at hc
    · rename_i x y t u hcx ht
      split at hc
      · cases hc
      · rename_i e d hnd hu hd
        simp only [Option.bind_eq_some_iff] at hc
        obtain ⟨i, hi, z, hz, hc⟩ := hc
        split at hc
        · rename_i hpos
          simp only [Option.bind_eq_some_iff, Option.map_eq_some_iff] at hc
          obtain ⟨ax, hx, ay, hy, rfl⟩ := hc
          refine .inl (ok_append hr hρ ho hcl hcx ht hu hd (fun k hk => ?_) hi ⟨hpos.1, hpos.2.1⟩ hz hpos.2.2 hx hy ha)
          subst hk
          first | exact hnd _ _ hu hd | exact hnd _ _ hd | exact hnd _ rfl hd | exact hnd _ rfl
        · cases hc
      · cases hc
    · cases hc
  · rename_i hcl
    split at hc
    · rename_i x t hcx ht
      split at hc
      · rename_i e hu
        simp only [Option.bind_eq_some_iff] at hc
        obtain ⟨z, hz, sz, hsz, hc⟩ := hc
        split at hc
        · rename_i hzl
          obtain ⟨ax, hx, rfl⟩ := Option.map_eq_some_iff.1 hc
          exact .inl (ok_clear hr hρ ho hcl hcx ht hu hz hsz hzl hx ha)
        · cases hc
      · cases hc
    · cases hc
  · rename_i hcl
    obtain ⟨axs, has, rfl⟩ := Option.map_eq_some_iff.1 hc
    exact .inl (ok_mx hr hρ ho (by simpa using hcl) (evs_V hρ _ _ has) ha)
  · rename_i hcl
    obtain ⟨axs, has, rfl⟩ := Option.map_eq_some_iff.1 hc
    exact .inl (ok_mx hr hρ ho (by simpa using hcl) (evs_V hρ _ _ has) ha)
  · cases hc

theorem op_ok {ao : AOp} (hc : compOp P tr o.op = some ao) (ha : aop cf S ev ao = some (v, S')) : Does P w0 φ S' v ((execOp ρ o).run P w) := by
  cases ho : o.op with
  | move x => exact .inl (ok_move hr hρ (.inl ho) hc ha)
  | assign x => exact .inl (ok_move hr hρ (.inr ho) hc ha)
  | pick c a b => exact .inl (ok_pick hr hρ ho hc ha)
  | alloc e => exact .inl (ok_new hr hρ ho hc ha)
  | box e x => exact .inl (ok_box hr hρ ho hc ha)
  | build t ps => exact .inl (ok_build hr hρ ho hc ha)
  | buildSlice t len ps => exact .inl (ok_lit hr hρ ho hc ha)
  | load t a => exact .inl (ok_load hr hρ ho hc ha)
  | store t a b => exact .inl (ok_store hr hρ ho hc ha)
  | nilCheck x => exact .inl (ok_nilck hr hρ ho hc ha)
  | unOp op t x => exact .inl (ok_una hr hρ ho hc ha)
  | fieldAddr t x f => exact .inl (ok_faddr hr hρ ho hc ha)
  | field t x f => exact .inl (ok_field hr hρ ho hc ha)
  | indexAddr t x i => exact .inl (ok_iaddr hr hρ ho hc ha)
  | index t x i => exact .inl (ok_sidx hr hρ ho hc ha)
  | extract t i => exact .inl (ok_ext hr hρ ho hc ha)
  | makeSlice t l c => exact .inl (ok_mksl hr hρ ho hc ha)
  | makeFunc fn first cap => exact .inl (ok_mkfn hr hρ ho hc ha (evs_V hρ))
  | call c => rw [ho] at hc; exact ok_call hr hρ hfn hcf ho hc ha
  | binOp op t x y u =>
    rw [ho] at hc
    simp only [compOp, Option.bind_eq_some_iff] at hc
    obtain ⟨ax, hx, ay, hy, hc⟩ := hc
    have hc0 : compOp P tr o.op = some ao := by rw [ho]; simp only [compOp, hx, hy, Option.bind_some]; exact hc
    split at hc
    · cases hc; exact .inl (ok_bin hr hρ ho hc0 rfl hx hy ha)
    · cases hc; exact .inl (ok_bin hr hρ ho hc0 rfl hx hy ha)
    · rename_i hu
      split at hc
      · cases hc; exact .inl (ok_eqb hr hρ ho (neg := false) rfl hu hx hy ha)
      · cases hc; exact .inl (ok_eqb hr hρ ho (neg := true) rfl hu hx hy ha)
      · cases hc
    · rename_i fs hu
      split at hc
      · obtain ⟨ks, hk, rfl⟩ := Option.map_eq_some_iff.1 hc; exact .inl (ok_eqs hr hρ ho (neg := false) rfl hk hx hy ha)
      · obtain ⟨ks, hk, rfl⟩ := Option.map_eq_some_iff.1 hc; exact .inl (ok_eqs hr hρ ho (neg := true) rfl hk hx hy ha)
      · cases hc
    · split at hc
      · obtain ⟨cl, hk, rfl⟩ := Option.map_eq_some_iff.1 hc; exact .inl (ok_eqn hr hρ ho (neg := false) rfl hk hx hy ha)
      · obtain ⟨cl, hk, rfl⟩ := Option.map_eq_some_iff.1 hc; exact .inl (ok_eqn hr hρ ho (neg := true) rfl hk hx hy ha)
      · cases hc
  | convert s d x =>
    rw [ho] at hc
    simp only [compOp, Option.bind_eq_some_iff] at hc
    obtain ⟨ax, hx, hc⟩ := hc
    split at hc
    · rename_i hs hd; cases hc; exact .inl (ok_i2i hr hρ ho hs hd hx ha)
    · rename_i hs hd; cases hc; exact .inl (ok_same hr hρ ho hs hd hx ha)
    · rename_i hs hd
      split at hc
      · rename_i he; cases hc; exact .inl (ok_s2b hr hρ ho hs hd he hx ha)
      · cases hc
    · rename_i hs hd
      split at hc
      · rename_i he; cases hc; exact .inl (ok_b2s hr hρ ho hs he hd hx ha)
      · cases hc
    · rename_i hs hd
      split at hc
      · rename_i he
        split at hc
        · rename_i hsd; cases hc; exact .inl (ok_mark hr hρ ho hs hd he hsd hx ha)
        · cases hc
      · cases hc
    · cases hc
  | makeMap t r =>
    rw [ho] at hc
    cases r with
    | none => simp only [compOp, Option.some.injEq] at hc; subst hc; exact .inl (ok_mkmap hr hρ ho ha)
    | some r => simp [compOp] at hc
  | slice t x lo hi mx =>
    rw [ho] at hc
    simp only [compOp] at hc
    split at hc
    · rename_i hu
      split at hc
      · simp only [Option.bind_eq_some_iff, Option.map_eq_some_iff] at hc
        obtain ⟨ax, hx, alo, hlo, ahi, hhi, rfl⟩ := hc
        exact .inl (ok_sslice hr hρ ho hu hx hlo hhi ha)
      · cases hc
    · rename_i e hu
      simp only [Option.bind_eq_some_iff, Option.map_eq_some_iff] at hc
      obtain ⟨sz, hsz, ax, hx, alo, hlo, ahi, hhi, amx, hmx, rfl⟩ := hc
      exact .inl (ok_slice hr hρ ho hu hsz hx hlo hhi hmx ha)
    · cases hc
  | lookup t m k ok =>
    rw [ho] at hc
    simp only [compOp] at hc
    split at hc
    · rename_i kt e hu
      simp only [Option.bind_eq_some_iff, Option.map_eq_some_iff] at hc
      obtain ⟨kk, hk, z, hz, am, hm, ak, hak, rfl⟩ := hc
      exact .inl (ok_look hr hρ ho hu hk hz hm hak ha)
    · cases hc
  | mapUpdate t m k y =>
    rw [ho] at hc
    simp only [compOp] at hc
    split at hc
    · rename_i kt e hu
      simp only [Option.bind_eq_some_iff, Option.map_eq_some_iff] at hc
      obtain ⟨kk, hk, am, hm, ak, hak, ay, hy, rfl⟩ := hc
      exact .inl (ok_mapu hr hρ ho hu hk hm hak hy ha)
    · cases hc
  | _ => rw [ho] at hc; simp [compOp] at hc

theorem frz_ok {al : List Nat} {ao : AOp} (hc : compOp P tr o.op = some ao) (ha : aop cf S ev (opOf al o ao) = some (v, S')) : Does P w0 φ S' v ((execOp ρ o).run P w) := by
  have key : makesRow o.op = true → aop cf S ev (frz ao) = some (v, S') → Does P w0 φ S' v ((execOp ρ o).run P w) := fun hm ha => by
    cases ho : o.op with
    | buildSlice t len ps => exact .inl (ok_litf hr hρ ho hc ha)
    | slice t x lo hi mx =>
      have hc0 := hc
      rw [ho] at hc
      simp only [compOp] at hc
      split at hc
      · split at hc
        · simp only [Option.bind_eq_some_iff, Option.map_eq_some_iff] at hc
          obtain ⟨ax, hx, alo, hlo, ahi, hhi, rfl⟩ := hc
          exact op_ok hr hρ hfn hcf hc0 ha
        · cases hc
      · rename_i e hu
        simp only [Option.bind_eq_some_iff, Option.map_eq_some_iff] at hc
        obtain ⟨sz, hsz, ax, hx, alo, hlo, ahi, hhi, amx, hmx, rfl⟩ := hc
        cases lo with
        | none => simp only [trO, Option.some.injEq] at hlo; subst hlo; exact op_ok hr hρ hfn hcf hc0 ha
        | some lo =>
          cases hi with
          | none => simp only [trO, Option.some.injEq] at hhi; subst hhi; obtain ⟨al, q1, rfl⟩ := Option.map_eq_some_iff.1 hlo; exact op_ok hr hρ hfn hcf hc0 ha
          | some hi =>
            obtain ⟨al, q1, rfl⟩ := Option.map_eq_some_iff.1 hlo
            obtain ⟨ah, q2, rfl⟩ := Option.map_eq_some_iff.1 hhi
            cases mx with
            | none => simp only [trO, Option.some.injEq] at hmx; subst hmx; exact .inl (ok_slicex hr hρ ho hu hsz hx q1 q2 ha)
            | some m => obtain ⟨am, q3, rfl⟩ := Option.map_eq_some_iff.1 hmx; exact op_ok hr hρ hfn hcf hc0 ha
      · cases hc
    | convert s d x =>
      have hc0 := hc
      rw [ho] at hc
      simp only [compOp, Option.bind_eq_some_iff] at hc
      obtain ⟨ax, hx, hc⟩ := hc
      split at hc
      · cases hc; exact op_ok hr hρ hfn hcf hc0 ha
      · cases hc; exact op_ok hr hρ hfn hcf hc0 ha
      · rename_i hs hd
        split at hc
        · rename_i he; cases hc; exact .inl (ok_s2bf hr hρ ho hs hd he hx ha)
        · cases hc
      · split at hc
        · cases hc; exact op_ok hr hρ hfn hcf hc0 ha
        · cases hc
      · split at hc
        · split at hc
          · cases hc; exact op_ok hr hρ hfn hcf hc0 ha
          · cases hc
        · cases hc
      · cases hc
    | _ => rw [ho] at hm; cases hm
  have keyN : makesRow o.op = true → aop cf S ev (frzN ao) = some (v, S') → Does P w0 φ S' v ((execOp ρ o).run P w) := fun hm ha => by
    cases ho : o.op with
    | buildSlice t len ps => exact .inl (ok_litn hr hρ ho hc ha)
    | slice t x lo hi mx =>
      have hc0 := hc
      rw [ho] at hc
      simp only [compOp] at hc
      split at hc
      · split at hc
        · simp only [Option.bind_eq_some_iff, Option.map_eq_some_iff] at hc
          obtain ⟨ax, hx, alo, hlo, ahi, hhi, rfl⟩ := hc
          exact op_ok hr hρ hfn hcf hc0 ha
        · cases hc
      · simp only [Option.bind_eq_some_iff, Option.map_eq_some_iff] at hc
        obtain ⟨sz, hsz, ax, hx, alo, hlo, ahi, hhi, amx, hmx, rfl⟩ := hc
        exact op_ok hr hρ hfn hcf hc0 ha
      · cases hc
    | convert s d x =>
      have hc0 := hc
      rw [ho] at hc
      simp only [compOp, Option.bind_eq_some_iff] at hc
      obtain ⟨ax, hx, hc⟩ := hc
      repeat' split at hc
      all_goals first | (cases hc; exact op_ok hr hρ hfn hcf hc0 ha) | cases hc
    | _ => rw [ho] at hm; cases hm
  unfold opOf at ha
  split at ha
  · split at ha
    · rename_i h; exact key (by simp only [Bool.and_eq_true] at h; exact h.2) ha
    · split at ha
      · rename_i h; exact keyN (by simp only [Bool.and_eq_true] at h; exact h.2) ha
      · exact op_ok hr hρ hfn hcf hc ha
  · exact op_ok hr hρ hfn hcf hc ha

end

/-- an operation done, the rest goes on -/
theorem Does.upon {P : Program} {w0 : World} {φ : Pc} {S' : Store} {v : AV} {r : Result Next} {o : Oper} {a : Act} {K : Act → World → Prop} {Q : Exit → Act → World → Prop} (h : Does P w0 φ S' v r)
    (hK : ∀ φ' cv w', Ext φ φ' → Rel w0 φ' S' w' → V w0 φ' v cv → K (a.put o.dst cv) w') : o.upon P a K Q r := by
  rcases h with ⟨φ', cv, w', hres, hx, hrel, hV⟩ | ⟨f, args, w, rfl, hcall⟩
  · rcases hres with rfl | ⟨rfl, rfl⟩
    · exact hK _ _ _ hx hrel hV
    · exact hK _ _ _ hx hrel hV
  · rw [Oper.upon_enter]
    refine Calls.mono hcall fun e w'' he => ?_
    obtain ⟨φ', cv, rfl, hx, hrel, hV⟩ := he
    exact hK _ _ _ hx hrel hV

end Go.Proofs.Ytmijfhepagobdaa.Avm
