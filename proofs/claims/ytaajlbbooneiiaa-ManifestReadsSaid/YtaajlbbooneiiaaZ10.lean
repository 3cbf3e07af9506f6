/- Functions that call themselves: known to a depth, then one deeper. Calls that turn an object that they are given. Calls whose arguments' rows are given up, and are for good wherever else they stood. Values of the codec: what its functions answer. Specs: numbers as bytes. -/
import Derived.Test.YtaajlbbooneiiaaZ7
import Derived.Test.YtaajlbbooneiiaaZ9
set_option linter.unusedVariables false
set_option linter.unusedSimpArgs false
set_option linter.unusedSectionVars false
namespace Go.Proofs.Ytaajlbbooneiiaa.Avm
open Go.RowKit

/-- a function's body, run -/
def bodyA (cf : CallF) (n : Nat) (fn : AFunc) (args : List AV) (S : Store) : Option (AV × Store) :=
  if args.length = fn.np then match exec cf n fn.body (initA args) S with
    | some (.exit _, _, _) => none
    | some (_, g, S') => (resA g S' fn.res).map fun vs => (oneOrTup vs, S')
    | none => none else none

theorem body_ok {P : Program} {w0 : World} {cf : CallF} {n : Nat} (hmix : P.follows .mixedOrders = true) (hcf : CallOK P w0 cf) {f : Nat} {fn : AFunc} {gl : List Nat} {pf : Func} (hpf : P.funcs[f]? = some pf) (hc : compF P gl pf = some fn)
    {args : List AV} {S : Store} {v : AV} {S' : Store} (h : bodyA cf n fn args S = some (v, S')) {φ : Pc} {w : World} {vs : List Value} (hr : Rel w0 φ S w) (hv : Vs w0 φ args vs) : Does P w0 φ S' v ((callFunc f vs.toArray).run P w) := by
  unfold bodyA at h
  unfold compF at hc
  split at hc
  · rename_i c rs hb hrs
    simp only at hc
    split at hc
    · rename_i hok
      cases hc
      simp only [Bool.and_eq_true, decide_eq_true_eq, bne_iff_ne, ne_eq] at hok
      split at h
      · rename_i hal
        split at h
        · cases h
        · rename_i ex g1 S1 hnex hex
          obtain ⟨rvs, hres, hh⟩ := Option.map_eq_some_iff.1 h
          cases hh
          refine .inr ⟨f, vs.toArray, w, by simp [callFunc, hpf, hok.2, hb], ?_⟩
          refine calls_of_wp hpf hb ?_
          have hsz : vs.length = pf.params.size + pf.nfree := by rw [← hv.1]; exact hal
          refine code_ok hmix hcf c _ φ _ w (initA args) S ex g1 _ hex hr ⟨?_, rfl, fun t ht => ?_⟩ fun φ' a' w' hx hr' ha' => ?_
          · simp; omega
          · simp only [initA]
            by_cases htl : t < vs.length
            · have h1 : (vs.toArray ++ Array.replicate (pf.ntmps - vs.toArray.size) undef).getD t undef = vs[t] := by
                rw [Array.getD_eq_getD_getElem?, Array.getElem?_append_left (by simpa using htl)]; simp [htl]
              rw [h1, List.getD_eq_getElem?_getD, List.getElem?_eq_getElem (by rw [hv.1]; exact htl)]
              exact hv.2 t _ _ (List.getElem?_eq_getElem (by rw [hv.1]; exact htl)) (List.getElem?_eq_getElem htl)
            · have h1 : (vs.toArray ++ Array.replicate (pf.ntmps - vs.toArray.size) undef).getD t undef = undef := by
                rw [Array.getD_eq_getD_getElem?, Array.getElem?_append_right (by simpa using htl), Array.getElem?_replicate]
                split <;> rfl
              rw [h1, List.getD_eq_getElem?_getD, List.getElem?_eq_none (by rw [hv.1]; omega)]
              exact .undef
          · obtain ⟨cvs, q1, q2⟩ := res_ok (P := P) hr' ha' _ _ _ hrs hres
            have hfin : a'.defers = [] ∧ ∃ v, (results pf a'.tmps).run P w' = .ok v w' ∧ Back w0 φ S' (oneOrTup rvs) (.returned v) w' := by
              refine ⟨ha'.defers, _, ?_, φ', _, rfl, hx, hr', one_V q2⟩
              unfold results
              rw [Array.mapM_eq_mapM_toList]
              simp only [map_eq_pure_bind, bind_assoc, Sem.run_bind, Sem.run_pure, pure_bind]
              exact congrArg (fun r : Result (List Value) => r.andThen fun a w' => Result.ok (if h : a.toArray.size = 1 then a.toArray[0] else Value.tuple a.toArray) w') q1
            cases ex with
            | normal => exact hfin
            | ret => exact hfin
            | exit id => exact (hnex id rfl).elim
        · cases h
      · cases h
    · cases hc
  · cases hc

/-- a body comes back with just this -/
def IsB (E : Env) (fn : AFunc) (args : List AV) (S : Store) (v : AV) (S' : Store) : Prop := ∃ N, ∀ n m, N ≤ n → N ≤ m → bodyA (run E m) n fn args S = some (v, S')
def SpB (E : Env) (fn : AFunc) (args : List AV) (S : Store) (R : AV → Store → Prop) : Prop := ∃ v S', R v S' ∧ IsB E fn args S v S'
theorem SpB.intro {E : Env} {fn : AFunc} {args : List AV} {S : Store} {R : AV → Store → Prop} (hl : args.length = fn.np)
    (h : wpC E fn.body (initA args) S (fin fn.res R) .mk) : SpB E fn args S R := by
  obtain ⟨ex, g, S', q, N, hN⟩ := wpC_spec h
  have : ∃ vs, resA g S' fn.res = some vs ∧ R (oneOrTup vs) S' ∧ ∀ i, ex ≠ .exit i := by
    cases ex with
    | exit i => exact q.elim
    | normal =>
      simp only [fin, thnR] at q
      split at q
      · rename_i vs hv; exact ⟨vs, hv, q, by simp⟩
      · exact q.elim
    | ret =>
      simp only [fin, thnR] at q
      split at q
      · rename_i vs hv; exact ⟨vs, hv, q, by simp⟩
      · exact q.elim
  obtain ⟨vs, hv, hR, hne⟩ := this
  refine ⟨_, S', hR, N, fun n m hn hm => ?_⟩
  unfold bodyA
  rw [if_pos hl, hN n m hn hm]
  cases ex with
  | exit i => exact absurd rfl (hne i)
  | normal => simp only [hv]; rfl
  | ret => simp only [hv]; rfl

def OkSB {α : Type} (E : Env) (fn : AFunc) (enc : α → List AV) (res : α → Option AV) : Prop := ∀ a v, res a = some v → ∃ S1, IsB E fn (enc a) [] v S1
def OkGB {α : Type} (E : Env) (fn : AFunc) (enc : α → List AV) (res : α → Option AV) : Prop := ∀ a v S, res a = some v → ∃ v1 S1, IsB E fn (enc a) S v1 S1 ∧ Conv S S1 v1 S v
section
variable {α : Type} {E : Env} {fn : AFunc} {enc : α → List AV} {k : α → Prop} {r : α → AV}
theorem OkSB.code (hl : ∀ a, (enc a).length = fn.np) (h : ∀ a, k a → wpC E fn.body (initA (enc a)) [] (fin fn.res fun v _ => v = r a) .mk) : OkSB E fn enc (gd k r) := fun a v hv => by
  obtain ⟨hk, rfl⟩ := gd_inv hv
  obtain ⟨v, S', rfl, hi⟩ := SpB.intro (hl a) (h a hk)
  exact ⟨S', hi⟩
theorem OkGB.code (hl : ∀ a, (enc a).length = fn.np) (h : ∀ a S, k a → wpC E fn.body (initA (enc a)) S (fin fn.res fun v T => Conv S T v S (r a)) .mk) : OkGB E fn enc (gd k r) := fun a v S hv => by
  obtain ⟨hk, rfl⟩ := gd_inv hv
  obtain ⟨v, S', hc, hi⟩ := SpB.intro (hl a) (h a S hk)
  exact ⟨v, S', hi, hc⟩
end

theorem AllOK.addSB {P : Program} {E E1 : Env} (hmix : P.follows .mixedOrders = true) (hE : AllOK P E) (hE1 : AllOK P E1) {f : Nat} {fn : AFunc} (hf : E.F f = some fn) {α : Type} {enc : α → List AV} {res : α → Option AV} (hs : ∀ a v, res a = some v → Scal v) (h : OkSB E1 fn enc res) : AllOK P (E.add f (primS enc res)) := fun w0 =>
  { fn := (hE w0).fn
    prim := fun g q hq cf hcf args S v S' hp φ w vs hr hv => by
      simp only [Env.add] at hq
      split at hq
      · rename_i hg; subst hg; cases hq
        obtain ⟨gl, pf, hpf, hc⟩ := (hE w0).fn g fn hf
        obtain ⟨a, h1, h2, rfl⟩ := primS_inv hp
        obtain ⟨S1, N, hN⟩ := h a v h2
        have hr0 : Rel w ⟨[], w.cell?⟩ [] w := ⟨Below.refl _ _, rfl, fun _ _ h => h, fun a cv i p x _ hp => by simp at hp, fun i j p q x y hp => by simp at hp, fun i p x hp => by simp at hp⟩
        have hv0 : Vs w ⟨[], w.cell?⟩ (enc a) vs := rdSL_V hr (fun a cv h => hr.fz a cv h) (fun i _ p x a cv _ _ _ _ hc => hc) h1 hv
        rcases body_ok hmix (run_ok hmix (hE1 w) N) hpf hc (hN N N (Nat.le_refl _) (Nat.le_refl _)) hr0 hv0 with k | ⟨f, bs, w1, k1, k2⟩
        · obtain ⟨φ', cv, w', k1, k2, k3, k4⟩ := k
          exact .inl ⟨φ, cv, w', k1, .refl _, hr.later k3.below, hs a v h2 _ _ _ _ _ k4⟩
        · refine .inr ⟨f, bs, w1, k1, k2.mono fun e w' hb => ?_⟩
          obtain ⟨φ', cv, e1, e2, e3, e4⟩ := hb
          exact ⟨φ, cv, e1, .refl _, hr.later e3.below, hs a v h2 _ _ _ _ _ e4⟩
      · exact (hE w0).prim g q hq cf hcf args S v S' hp φ w vs hr hv }
theorem AllOK.addGB {P : Program} {E E1 : Env} (hmix : P.follows .mixedOrders = true) (hE : AllOK P E) (hE1 : AllOK P E1) {f : Nat} {fn : AFunc} (hf : E.F f = some fn) {α : Type} {enc : α → List AV} {res : α → Option AV} (h : OkGB E1 fn enc res) : AllOK P (E.add f (primG enc res)) := fun w0 =>
  { fn := (hE w0).fn
    prim := fun g q hq cf hcf args S v S' hp φ w vs hr hv => by
      simp only [Env.add] at hq
      split at hq
      · rename_i hg; subst hg; cases hq
        obtain ⟨gl, pf, hpf, hc⟩ := (hE w0).fn g fn hf
        obtain ⟨a, h1, h2, rfl⟩ := primG_inv hp
        obtain ⟨φ1, g1, g2, g3⟩ := hr.give (topIdsL args)
        obtain ⟨v1, S1, ⟨N, hN⟩, hcv⟩ := h a v (killL (topIdsL args) S) h2
        have hv0 : Vs w0 φ1 (enc a) vs := rdSL_V hr g1.fz g3 h1 hv
        rcases body_ok hmix (run_ok hmix (hE1 w0) N) hpf hc (hN N N (Nat.le_refl _) (Nat.le_refl _)) g2 hv0 with k | ⟨f, bs, w1, k1, k2⟩
        · obtain ⟨φ', cv, w', k1, k2, k3, k4⟩ := k
          obtain ⟨φ2, m1, m2, m3⟩ := hcv.rel g2 k2 k3 k4
          exact .inl ⟨φ2, cv, w', k1, g1.trans m1, m2, m3⟩
        · refine .inr ⟨f, bs, w1, k1, k2.mono fun e w' hb => ?_⟩
          obtain ⟨φ', cv, e1, e2, e3, e4⟩ := hb
          obtain ⟨φ2, m1, m2, m3⟩ := hcv.rel g2 e2 e3 e4
          exact ⟨φ2, cv, e1, g1.trans m1, m2, m3⟩
      · exact (hE w0).prim g q hq cf hcf args S v S' hp φ w vs hr hv }

/-! ### known to a depth -/
theorem gd_none {α : Type} {k : α → Prop} {r : α → AV} (h : ∀ a, ¬ k a) {a : α} {v : AV} (hv : gd k r a = some v) : False := h a (gd_inv hv).1
theorem AllOK.recS {P : Program} {E : Env} (hmix : P.follows .mixedOrders = true) (hE : AllOK P E) {f : Nat} {fn : AFunc} (hf : E.F f = some fn) {α : Type} {enc : α → List AV} {k : Nat → α → Prop} {r : α → AV} (hs : ∀ a, Scal (r a)) (h0 : ∀ a, ¬ k 0 a)
    (h : ∀ d, OkSB (E.add f (primS enc (gd (k d) r))) fn enc (gd (k (d + 1)) r)) : ∀ d, AllOK P (E.add f (primS enc (gd (k d) r)))
  | 0 => fun w0 => { fn := (hE w0).fn
                     prim := fun g q hq cf hcf args S v S' hp φ w vs hr hv => by
                      simp only [Env.add] at hq
                      split at hq
                      · rename_i hg; subst hg; cases hq
                        obtain ⟨a, h1, h2, rfl⟩ := primS_inv hp
                        exact (gd_none h0 h2).elim
                      · exact (hE w0).prim g q hq cf hcf args S v S' hp φ w vs hr hv }
  | d + 1 => AllOK.addSB hmix hE (AllOK.recS hmix hE hf hs h0 h d) hf (Scal.gd hs) (h d)
theorem AllOK.recG {P : Program} {E : Env} (hmix : P.follows .mixedOrders = true) (hE : AllOK P E) {f : Nat} {fn : AFunc} (hf : E.F f = some fn) {α : Type} {enc : α → List AV} {k : Nat → α → Prop} {r : α → AV} (h0 : ∀ a, ¬ k 0 a)
    (h : ∀ d, OkGB (E.add f (primG enc (gd (k d) r))) fn enc (gd (k (d + 1)) r)) : ∀ d, AllOK P (E.add f (primG enc (gd (k d) r)))
  | 0 => fun w0 => { fn := (hE w0).fn
                     prim := fun g q hq cf hcf args S v S' hp φ w vs hr hv => by
                      simp only [Env.add] at hq
                      split at hq
                      · rename_i hg; subst hg; cases hq
                        obtain ⟨a, h1, h2, rfl⟩ := primG_inv hp
                        exact (gd_none h0 h2).elim
                      · exact (hE w0).prim g q hq cf hcf args S v S' hp φ w vs hr hv }
  | d + 1 => AllOK.addGB hmix hE (AllOK.recG hmix hE hf h0 h d) hf (h d)

/-! ### calls that turn an object that they are given -/
noncomputable section
open Classical
variable {σ α : Type}
def primM (encS : σ → List AV) (enc : α → List AV) (res : σ → α → Option (AV × σ)) (args : List AV) (S : Store) : Option (AV × Store) :=
  match args with
  | .ptr id off :: rest => if h : off = 0 ∧ ∃ p : σ × α, S[id]? = some (.cells (encS p.1)) ∧ rd0L rest = some (enc p.2) then (res h.2.choose.1 h.2.choose.2).map fun q => (q.1, S.set id (.cells (encS q.2))) else none
  | _ => none
end
section
variable {σ α : Type} {encS : σ → List AV} {enc : α → List AV} {res : σ → α → Option (AV × σ)} {args : List AV} {S S' : Store} {s s' : σ} {a : α} {v : AV} {id : Nat}
theorem primM_eq (hS : Inj encS) (hi : Inj enc) (h : S[id]? = some (.cells (encS s))) (hr : rd0L args = some (enc a)) (hq : res s a = some (v, s')) : primM encS enc res (.ptr id 0 :: args) S = some (v, S.set id (.cells (encS s'))) := by
  have he : 0 = 0 ∧ ∃ p : σ × α, S[id]? = some (.cells (encS p.1)) ∧ rd0L args = some (enc p.2) := ⟨rfl, (s, a), h, hr⟩
  have h1 : he.2.choose.1 = s := hS _ _ (by have := he.2.choose_spec.1.symm.trans h; simpa using this)
  have h2 : he.2.choose.2 = a := hi _ _ (Option.some.inj (he.2.choose_spec.2.symm.trans hr))
  unfold primM; simp only; rw [dif_pos he, h1, h2, hq]; rfl
theorem primM_inv (h : primM encS enc res args S = some (v, S')) : ∃ id rest s a s', args = .ptr id 0 :: rest ∧ S[id]? = some (.cells (encS s)) ∧ rd0L rest = some (enc a) ∧ res s a = some (v, s') ∧ S' = S.set id (.cells (encS s')) := by
  unfold primM at h
  split at h
  · rename_i id off rest
    split at h
    · rename_i he
      obtain ⟨q, h1, h2⟩ := Option.map_eq_some_iff.1 h
      cases h2
      obtain ⟨rfl, he⟩ := he
      exact ⟨id, rest, _, _, q.2, rfl, he.choose_spec.1, he.choose_spec.2, h1, rfl⟩
    · cases h
  · cases h
end
def OkM {σ α : Type} (E : Env) (f : Nat) (encS : σ → List AV) (enc : α → List AV) (res : σ → α → Option (AV × σ)) : Prop :=
  ∀ s a v s', res s a = some (v, s') → ∀ (S : Store) (id : Nat), S[id]? = some (.cells (encS s)) → ∃ v1 S1, Is E f (.ptr id 0 :: enc a) S v1 S1 ∧ Conv S S1 v1 (S.set id (.cells (encS s'))) v
def OkMB {σ α : Type} (E : Env) (fn : AFunc) (encS : σ → List AV) (enc : α → List AV) (res : σ → α → Option (AV × σ)) : Prop :=
  ∀ s a v s', res s a = some (v, s') → ∀ (S : Store) (id : Nat), S[id]? = some (.cells (encS s)) → ∃ v1 S1, IsB E fn (.ptr id 0 :: enc a) S v1 S1 ∧ Conv S S1 v1 (S.set id (.cells (encS s'))) v
theorem AllOK.addM {P : Program} {E : Env} (hmix : P.follows .mixedOrders = true) (hE : AllOK P E) {σ α : Type} {encS : σ → List AV} {enc : α → List AV} {res : σ → α → Option (AV × σ)} {f : Nat} (h : OkM E f encS enc res) : AllOK P (E.add f (primM encS enc res)) := fun w0 =>
  { fn := (hE w0).fn
    prim := fun g q hq cf hcf args S v S' hp φ w vs hr hv => by
      simp only [Env.add] at hq
      split at hq
      · rename_i hg; subst hg; cases hq
        obtain ⟨id, rest, s, a, s', rfl, h1, h2, h3, rfl⟩ := primM_inv hp
        obtain ⟨v1, S1, ⟨N, hN⟩, hc⟩ := h s a v s' h3 S id h1
        obtain ⟨cv, cvs, rfl, k1, k2⟩ := hv.cons_inv
        have hv0 : Vs w0 φ (.ptr id 0 :: enc a) (cv :: cvs) := .cons k1 (rd0L_V (fun _ _ h => h) h2 k2)
        rcases run_ok hmix (hE w0) N g _ _ v1 S1 (hN N (Nat.le_refl _)) _ w _ hr hv0 with k | ⟨f, bs, w1, k1, k2⟩
        · obtain ⟨φ', cv, w', k1, k2, k3, k4⟩ := k
          obtain ⟨φ2, m1, m2, m3⟩ := hc.rel hr k2 k3 k4
          exact .inl ⟨φ2, cv, w', k1, m1, m2, m3⟩
        · refine .inr ⟨f, bs, w1, k1, k2.mono fun e w' hb => ?_⟩
          obtain ⟨φ', cv, e1, e2, e3, e4⟩ := hb
          obtain ⟨φ2, m1, m2, m3⟩ := hc.rel hr e2 e3 e4
          exact ⟨φ2, cv, e1, m1, m2, m3⟩
      · exact (hE w0).prim g q hq cf hcf args S v S' hp φ w vs hr hv }
theorem AllOK.addMB {P : Program} {E E1 : Env} (hmix : P.follows .mixedOrders = true) (hE : AllOK P E) (hE1 : AllOK P E1) {f : Nat} {fn : AFunc} (hf : E.F f = some fn) {σ α : Type} {encS : σ → List AV} {enc : α → List AV} {res : σ → α → Option (AV × σ)} (h : OkMB E1 fn encS enc res) : AllOK P (E.add f (primM encS enc res)) := fun w0 =>
  { fn := (hE w0).fn
    prim := fun g q hq cf hcf args S v S' hp φ w vs hr hv => by
      simp only [Env.add] at hq
      split at hq
      · rename_i hg; subst hg; cases hq
        obtain ⟨gl, pf, hpf, hcm⟩ := (hE w0).fn g fn hf
        obtain ⟨id, rest, s, a, s', rfl, h1, h2, h3, rfl⟩ := primM_inv hp
        obtain ⟨v1, S1, ⟨N, hN⟩, hc⟩ := h s a v s' h3 S id h1
        obtain ⟨cv, cvs, rfl, k1, k2⟩ := hv.cons_inv
        have hv0 : Vs w0 φ (.ptr id 0 :: enc a) (cv :: cvs) := .cons k1 (rd0L_V (fun _ _ h => h) h2 k2)
        rcases body_ok hmix (run_ok hmix (hE1 w0) N) hpf hcm (hN N N (Nat.le_refl _) (Nat.le_refl _)) hr hv0 with k | ⟨f, bs, w1, k1, k2⟩
        · obtain ⟨φ', cv, w', k1, k2, k3, k4⟩ := k
          obtain ⟨φ2, m1, m2, m3⟩ := hc.rel hr k2 k3 k4
          exact .inl ⟨φ2, cv, w', k1, m1, m2, m3⟩
        · refine .inr ⟨f, bs, w1, k1, k2.mono fun e w' hb => ?_⟩
          obtain ⟨φ', cv, e1, e2, e3, e4⟩ := hb
          obtain ⟨φ2, m1, m2, m3⟩ := hc.rel hr e2 e3 e4
          exact ⟨φ2, cv, e1, m1, m2, m3⟩
      · exact (hE w0).prim g q hq cf hcf args S v S' hp φ w vs hr hv }
open Classical in
/-- an answer and the object's new state, where a condition holds -/
noncomputable def gdM {σ α : Type} (k : σ → α → Prop) (r : σ → α → AV × σ) (s : σ) (a : α) : Option (AV × σ) := if k s a then some (r s a) else none
theorem gdM_inv {σ α : Type} {k : σ → α → Prop} {r : σ → α → AV × σ} {s : σ} {a : α} {q : AV × σ} (h : gdM k r s a = some q) : k s a ∧ q = r s a := by
  unfold gdM at h
  split at h
  · rename_i hk; cases h; exact ⟨hk, rfl⟩
  · cases h
theorem AllOK.recM {P : Program} {E : Env} (hmix : P.follows .mixedOrders = true) (hE : AllOK P E) {f : Nat} {fn : AFunc} (hf : E.F f = some fn) {σ α : Type} {encS : σ → List AV} {enc : α → List AV} {k : Nat → σ → α → Prop} {r : σ → α → AV × σ} (h0 : ∀ s a, ¬ k 0 s a)
    (h : ∀ d, OkMB (E.add f (primM encS enc (gdM (k d) r))) fn encS enc (gdM (k (d + 1)) r)) : ∀ d, AllOK P (E.add f (primM encS enc (gdM (k d) r)))
  | 0 => fun w0 => { fn := (hE w0).fn
                     prim := fun g q hq cf hcf args S v S' hp φ w vs hr hv => by
                      simp only [Env.add] at hq
                      split at hq
                      · rename_i hg; subst hg; cases hq
                        obtain ⟨id, rest, s, a, s', rfl, h1, h2, h3, rfl⟩ := primM_inv hp
                        exact (h0 _ _ (gdM_inv h3).1).elim
                      · exact (hE w0).prim g q hq cf hcf args S v S' hp φ w vs hr hv }
  | d + 1 => AllOK.addMB hmix hE (AllOK.recM hmix hE hf h0 h d) hf (h d)

theorem callM {σ α : Type} {E : Env} {f : Nat} {encS : σ → List AV} {enc : α → List AV} {k : σ → α → Prop} {r : σ → α → AV × σ} {args : List AV} {S : Store} {s : σ} {a : α} {id : Nat} {K : AV → Store → Prop} {d : Dm K}
    (h : E.prim f = some fun _ => primM encS enc (gdM k r)) (hS : Inj encS) (hi : Inj enc) (hs : S[id]? = some (.cells (encS s))) (hr : rd0L args = some (enc a)) (hk : k s a) :
    SpD E f (.ptr id 0 :: args) S K d = K (r s a).1 (S.set id (.cells (encS (r s a).2))) :=
  Is.spD (Is.prim h (primM_eq hS hi hs hr (show gdM k r s a = some ((r s a).1, (r s a).2) from by unfold gdM; rw [if_pos hk]))) K d

/-- the object that was given, turned; what was answered, told for good -/
theorem Conv.turned {S T : Store} {id : Nat} {cs ds : List AV} {v u : AV} (hp : S.set id (.cells cs) <+: T) (hid : id < S.length) (hi : ∀ i, i ∈ topIdsL cs → S.length ≤ i) (hc : rdSL T cs = some ds)
    (hj : ∀ i, i ∈ topIds v → S.length ≤ i) (hv : rdS T v = some u) : Conv S T v (S.set id (.cells ds)) u := by
  obtain ⟨U, rfl⟩ := hp
  have none' : ∀ i, S.length ≤ i → (fun i => if i < S.length then some i else none : Nat → Option Nat) i = none := fun i h => if_neg (by omega)
  refine ⟨fun i => if i < S.length then some i else none, fun i => i, fun i h => if_pos h, fun i i' h => ?_, fun i' h => ?_, fun i' x' h => ?_, rdS_Cv _ _ (fun i h => none' i (hj i h)) hv⟩
  · simp only at h
    split at h
    · cases h; rename_i h; exact ⟨by simpa using h, rfl⟩
    · cases h
  · simp only [List.length_set] at h
    exact ⟨by simp; omega, if_pos h⟩
  · have hl : i' < S.length := by have := (List.getElem?_eq_some_iff.1 h).1; simpa using this
    by_cases e : i' = id
    · subst e
      rw [List.getElem?_set_self hid] at h; cases h
      refine .inr ⟨.cells cs, by show (S.set i' (.cells cs) ++ U)[i']? = _; rw [List.getElem?_append_left (by simpa using hl), List.getElem?_set_self hid], ?_⟩
      obtain ⟨q1, q2⟩ := rdSL_Cv (ρ := fun i => if i < S.length then some i else none) cs ds (fun i h => none' i (hi i h)) hc
      exact .cells q1 q2
    · rw [List.getElem?_set_ne (fun q => e q.symm)] at h
      exact .inl ⟨hl, h, by rw [List.getElem?_append_left (by simpa using hl), List.getElem?_set_ne (fun q => e q.symm)]; exact h⟩

section
variable {σ α : Type} {E : Env} {f : Nat} {fn : AFunc} {encS : σ → List AV} {enc : α → List AV} {k : σ → α → Prop} {r : σ → α → AV × σ}
theorem OkM.code (hp : E.prim f = none) (hf : E.F f = some fn) (hl : ∀ a, (enc a).length + 1 = fn.np)
    (h : ∀ s a S id, S[id]? = some (.cells (encS s)) → k s a → wpC E fn.body (initA (.ptr id 0 :: enc a)) S (fin fn.res fun v T => Conv S T v (S.set id (.cells (encS (r s a).2))) (r s a).1) .mk) : OkM E f encS enc (gdM k r) := fun s a v s' hv S id hs => by
  obtain ⟨hk, he⟩ := gdM_inv hv
  obtain ⟨v1, S1, hc, hi⟩ := Sp.intro hp hf (by simpa using hl a) (h s a S id hs hk)
  rw [← he] at hc
  exact ⟨v1, S1, hi, hc⟩
theorem OkMB.code (hl : ∀ a, (enc a).length + 1 = fn.np)
    (h : ∀ s a S id, S[id]? = some (.cells (encS s)) → k s a → wpC E fn.body (initA (.ptr id 0 :: enc a)) S (fin fn.res fun v T => Conv S T v (S.set id (.cells (encS (r s a).2))) (r s a).1) .mk) : OkMB E fn encS enc (gdM k r) := fun s a v s' hv S id hs => by
  obtain ⟨hk, he⟩ := gdM_inv hv
  obtain ⟨v1, S1, hc, hi⟩ := SpB.intro (by simpa using hl a) (h s a S id hs hk)
  rw [← he] at hc
  exact ⟨v1, S1, hi, hc⟩
end
/-- a function that does just this with whatever it is given -/
def PrimE (E : Env) (f : Nat) (p : List AV → Store → Option (AV × Store)) : Prop :=
  ∀ (args : List AV) (S : Store) (v : AV) (S' : Store), p args S = some (v, S') → ∃ N v1 S1, run E N f args S = some (v1, S1) ∧ ((∀ (T : Store) (ρ : Nat → Option Nat), (∀ i, i < S.length → ρ i = some i) → ∀ x, x ∈ args → Cv T ρ x x) → Conv S S1 v1 S' v)
theorem AllOK.addE {P : Program} {E : Env} (hmix : P.follows .mixedOrders = true) (hE : AllOK P E) {f : Nat} {p : List AV → Store → Option (AV × Store)} (h : PrimE E f p) : AllOK P (E.add f p) := fun w0 =>
  { fn := (hE w0).fn
    prim := fun g q hq cf hcf args S v S' hp φ w vs hr hv => by
      simp only [Env.add] at hq
      split at hq
      · rename_i hg; subst hg; cases hq
        obtain ⟨N, v1, S1, h1, h2⟩ := h args S v S' hp
        have hc := h2 fun T ρ hρ x hx => by
          obtain ⟨j, hj, rfl⟩ := List.getElem_of_mem hx
          obtain ⟨cv, _, k⟩ := hv.get (List.getElem?_eq_getElem hj)
          exact k.cvRefl fun i hi => hρ i (by rw [← hr.len]; exact hi)
        rcases run_ok hmix (hE w0) N g _ _ v1 S1 h1 _ w _ hr hv with k | ⟨f, bs, w1, k1, k2⟩
        · obtain ⟨φ', cv, w', k1, k2, k3, k4⟩ := k
          obtain ⟨φ2, m1, m2, m3⟩ := hc.rel hr k2 k3 k4
          exact .inl ⟨φ2, cv, w', k1, m1, m2, m3⟩
        · refine .inr ⟨f, bs, w1, k1, k2.mono fun e w' hb => ?_⟩
          obtain ⟨φ', cv, e1, e2, e3, e4⟩ := hb
          obtain ⟨φ2, m1, m2, m3⟩ := hc.rel hr e2 e3 e4
          exact ⟨φ2, cv, e1, m1, m2, m3⟩
      · exact (hE w0).prim g q hq cf hcf args S v S' hp φ w vs hr hv }
/-- new objects that nothing leads to -/
theorem Conv.junk {S T : Store} {v u : AV} (hp : S <+: T) (h : Cv T (fun i => if i < S.length then some i else none) v u) : Conv S T v S u := by
  obtain ⟨U, rfl⟩ := hp
  refine ⟨fun i => if i < S.length then some i else none, fun i => i, fun i h => if_pos h, fun i i' h => ?_, fun i' h => ⟨by simp; omega, if_pos h⟩, fun i' x' h => .inl ⟨(List.getElem?_eq_some_iff.1 h).1, h, ?_⟩, h⟩
  · simp only at h
    split at h
    · cases h; rename_i h; exact ⟨h, rfl⟩
    · cases h
  · rw [List.getElem?_append_left (List.getElem?_eq_some_iff.1 h).1]; exact h
inductive Cvs (S : Store) (ρ : Nat → Option Nat) : List AV → List AV → Prop
  | nil : Cvs S ρ [] []
  | cons {v u : AV} {l m : List AV} (h : Cv S ρ v u) (k : Cvs S ρ l m) : Cvs S ρ (v :: l) (u :: m)
theorem Cvs.two {S : Store} {ρ : Nat → Option Nat} {cs ds : List AV} (h : Cvs S ρ cs ds) : cs.length = ds.length ∧ ∀ (j : Nat) (v u : AV), cs[j]? = some v → ds[j]? = some u → Cv S ρ v u := by
  induction h with
  | nil => exact ⟨rfl, fun j v u a => by simp at a⟩
  | cons h k ih =>
    refine ⟨by simp [ih.1], fun j v u a b => ?_⟩
    cases j with
    | zero => simp at a b; subst a; subst b; exact h
    | succ j => simp at a b; exact ih.2 j v u a b
theorem Cv.aggOf {S : Store} {ρ : Nat → Option Nat} {cs ds : List AV} (h : Cvs S ρ cs ds) : Cv S ρ (.agg cs) (.agg ds) := .agg h.two.1 h.two.2

/-- a text of bytes on the other side -/
theorem fl_b2s {ins : List AIns} {L : List AV} {R : Trc} {i j : Nat} {dst : Option Nat} {x : AX} {gd : Option (Nat × Bool)} {gi gj : Frame} {Si Sj : Store} {k : Nat}
    (hk : (if i < j then j + 1 else j) = k) (h1 : ins[i]? = some ⟨dst, .b2s x, gd⟩) (h2 : R[i]? = some (gi, Si)) (h3 : R[k]? = some (gj, Sj)) (h : b2sA Sj (ev gi (L.take i) x) = some (L.getD i .undef)) : flOne ins L R i j := by
  unfold flOne
  rw [hk, h1, h2, h3]
  have key : aop0 Sj (ev gi (L.take i)) (.b2s x) = (b2sA Sj (ev gi (L.take i) x)).map fun v => (v, Sj) := by
    simp only [aop0, aop, b2sA]
    generalize ev gi (L.take i) x = a
    cases a <;> simp [Option.map_bind, Function.comp_def]
  exact .inr ⟨Sj, by simp only [key, h]; rfl⟩

/-! a store with one object turned, and new ones behind -/
theorem get_oldS {S : Store} {id : Nat} {o x : AObj} (h : S[id]? = some o) (l : List AObj) : (S.set id x ++ l)[id]? = some x := by
  have := (List.getElem?_eq_some_iff.1 h).1
  rw [List.getElem?_append_left (by simpa using this), List.getElem?_set_self this]
theorem set_oldS {S : Store} {id : Nat} {o : AObj} (h : S[id]? = some o) (x y : AObj) (l : List AObj) : (S.set id x ++ l).set id y = S.set id y ++ l := by
  have := (List.getElem?_eq_some_iff.1 h).1
  rw [List.set_append_left _ _ (by simpa using this), List.set_set]
theorem get_newS (S : Store) (id : Nat) (x : AObj) (l : List AObj) (k : Nat) : (S.set id x ++ l)[S.length + k]? = l[k]? := by
  have := get_new (S.set id x) l k; rwa [List.length_set] at this
theorem get_newS0 (S : Store) (id : Nat) (x : AObj) (l : List AObj) : (S.set id x ++ l)[S.length]? = l[0]? := get_newS S id x l 0
theorem set_newS (S : Store) (id : Nat) (x : AObj) (l : List AObj) (k : Nat) (o : AObj) : (S.set id x ++ l).set (S.length + k) o = S.set id x ++ l.set k o := by
  have := set_new (S.set id x) l k o; rwa [List.length_set] at this
theorem set_newS0 (S : Store) (id : Nat) (x : AObj) (l : List AObj) (o : AObj) : (S.set id x ++ l).set S.length o = S.set id x ++ l.set 0 o := set_newS S id x l 0 o
theorem set_self {S : Store} {id : Nat} {o : AObj} (h : S[id]? = some o) : S.set id o = S := by
  obtain ⟨hh, e⟩ := List.getElem?_eq_some_iff.1 h
  rw [← e]; exact List.set_getElem_self hh
attribute [go_sem] get_newS get_newS0 set_newS set_newS0
theorem gset {S : Store} {id : Nat} {o x : AObj} (h : S[id]? = some o) : (S.set id x)[id]? = some x := List.getElem?_set_self (List.getElem?_eq_some_iff.1 h).1
end Go.Proofs.Ytaajlbbooneiiaa.Avm
set_option linter.unusedVariables false
set_option linter.unusedSimpArgs false
set_option linter.unusedSectionVars false
namespace Go.Proofs.Ytaajlbbooneiiaa.Avm
open Go.RowKit

theorem killL_ne : ∀ (ids : List Nat) (T : Store) (i : Nat), i ∉ ids → (killL ids T)[i]? = T[i]?
  | [], _, _, _ => rfl
  | j :: ids, T, i, h => by
    simp only [List.mem_cons, not_or] at h
    rw [killL_cons, killL_ne ids _ i h.2, List.getElem?_set_ne (fun e => h.1 e.symm)]
def thawV (S : Store) (ids : List Nat) : AV → AV
  | .sl id off n sz => if ids.contains id then (rdS S (.sl id off n sz)).getD (.sl id off n sz) else .sl id off n sz
  | v => v
def thawO (S : Store) (ids : List Nat) : AObj → AObj
  | .cells cs => .cells (cs.map (thawV S ids))
  | o => o
def killH (ids : List Nat) (S : Store) : Store := killL ids (S.map (thawO S ids))
theorem thawV_nil (S : Store) (v : AV) : thawV S [] v = v := by cases v <;> rfl
theorem thawO_nil (S : Store) (o : AObj) : thawO S [] o = o := by
  cases o with
  | cells cs => simp only [thawO]; congr 1; exact (List.map_congr_left fun v _ => thawV_nil S v).trans (List.map_id' cs)
  | _ => rfl
theorem killH_nil (S : Store) : killH [] S = S := by
  show S.map (thawO S []) = S
  exact (List.map_congr_left fun v _ => thawO_nil S v).trans (List.map_id' S)
theorem live_thaw {S : Store} {ids : List Nat} {o : AObj} : live (thawO S ids o) ↔ live o := by cases o <;> exact Iff.rfl
theorem killH_get {ids : List Nat} {S : Store} {i : Nat} {x : AObj} (h : (killH ids S)[i]? = some x) (hl : live x) : ∃ x', S[i]? = some x' ∧ x = thawO S ids x' ∧ i ∉ ids ∧ live x' := by
  obtain ⟨h1, h2⟩ := killL_get ids _ i x h hl
  rw [List.getElem?_map] at h1
  obtain ⟨x', k1, rfl⟩ := Option.map_eq_some_iff.1 h1
  exact ⟨x', k1, rfl, h2, live_thaw.1 hl⟩
theorem Rel.giveH {w0 w : World} {φ : Pc} {S : Store} (hr : Rel w0 φ S w) (ids : List Nat) :
    ∃ φ', Ext φ φ' ∧ Rel w0 φ' (killH ids S) w ∧ ∀ i, i ∈ ids → ∀ (p : Pl) (x : AObj) (a : Addr) (cv : Value), φ.pl[i]? = some p → S[i]? = some x → live x → a.block = p.b → w.cell? a = some cv → φ'.fz a = some cv := by
  obtain ⟨φ', hx, hR, hg⟩ := hr.give ids
  have hpl : φ'.pl.length = φ.pl.length := by rw [hR.len, killL_len, hr.len]
  have hpe : ∀ (i : Nat) (p : Pl), φ'.pl[i]? = some p → φ.pl[i]? = some p := fun i p h => by
    have hi : i < φ.pl.length := by rw [← hpl]; exact (List.getElem?_eq_some_iff.1 h).1
    have := hx.pl i _ (List.getElem?_eq_getElem hi)
    rw [h] at this; cases this; exact List.getElem?_eq_getElem hi
  have old : ∀ (i : Nat) (x' : AObj), S[i]? = some x' → i ∉ ids → (killL ids S)[i]? = some x' := fun i x' h hi => by rw [killL_ne ids S i hi]; exact h
  refine ⟨φ', hx, ⟨hR.below, by rw [hR.len, killL_len, killH, killL_len, List.length_map], hR.fz, fun a cv i p x ha hp hS hl => ?_, fun i j p q x y hp hq hS hT lx ly hb => ?_, fun i p x hp hS => ?_⟩, hg⟩
  · obtain ⟨x', k1, k2, k3, k4⟩ := killH_get hS hl
    exact hR.fzb a cv i p x' ha hp (old i x' k1 k3) k4
  · obtain ⟨x', k1, k2, k3, k4⟩ := killH_get hS lx
    obtain ⟨y', m1, m2, m3, m4⟩ := killH_get hT ly
    exact hR.inj i j p q x' y' hp hq (old i x' k1 k3) (old j y' m1 m3) k4 m4 hb
  · by_cases hl : live x
    · obtain ⟨x', k1, rfl, k3, k4⟩ := killH_get hS hl
      have ho := hR.obj i p x' hp (old i x' k1 k3)
      cases x' with
      | cells cs =>
        have ho0 := hr.obj i p _ (hpe i p hp) k1
        obtain ⟨h1, h2, ccs, e, fr, h3, h4, h5, h6, h7⟩ := ho0
        refine ⟨by simpa using h1, h2, ccs, e, fr, h3, h4, h5, by simpa using h6, fun j v hv => ?_⟩
        rw [List.getElem?_map] at hv
        obtain ⟨v', kv, rfl⟩ := Option.map_eq_some_iff.1 hv
        obtain ⟨cv, a1, a2, a3⟩ := h7 j v' kv
        refine ⟨cv, a1, ?_, a3⟩
        cases v' with
        | sl id off n sz =>
          simp only [thawV]
          split
          · rename_i hid
            cases hrd : rdS S (.sl id off n sz) with
            | none => exact a2.mono hx
            | some u =>
              rw [Option.getD_some]
              exact rdS_V hr hx.fz (fun i hi => hg i (by simp only [topIds, List.mem_singleton] at hi; subst hi; simpa using hid)) hrd a2
          · exact a2.mono hx
        | _ => exact a2.mono hx
      | map es => exact ho
      | chan c b => exact ho
      | dead => exact ho
    · cases x <;> first | trivial | exact absurd trivial hl

noncomputable section
open Classical
variable {α : Type}
def primH (enc : α → List AV) (res : α → Option AV) (args : List AV) (S : Store) : Option (AV × Store) :=
  if h : ∃ a, rdSL S args = some (enc a) then (res h.choose).map fun v => (v, killH (topIdsL args) S) else none
end
section
variable {α : Type} {enc : α → List AV} {res : α → Option AV} {args : List AV} {S S' : Store} {a : α} {v : AV}
theorem primH_eq (hi : Inj enc) (h : rdSL S args = some (enc a)) (hr : res a = some v) : primH enc res args S = some (v, killH (topIdsL args) S) := by
  have he : ∃ a, rdSL S args = some (enc a) := ⟨a, h⟩
  have : he.choose = a := hi _ _ (Option.some.inj (he.choose_spec.symm.trans h))
  unfold primH; rw [dif_pos he, this, hr]; rfl
theorem primH_inv (h : primH enc res args S = some (v, S')) : ∃ a, rdSL S args = some (enc a) ∧ res a = some v ∧ S' = killH (topIdsL args) S := by
  unfold primH at h
  split at h
  · rename_i he
    obtain ⟨u, h1, h2⟩ := Option.map_eq_some_iff.1 h
    cases h2; exact ⟨_, he.choose_spec, h1, rfl⟩
  · cases h
theorem callH {E : Env} {f : Nat} {k : α → Prop} {r : α → AV} {K : AV → Store → Prop} {d : Dm K} (h : E.prim f = some fun _ => primH enc (gd k r)) (hi : Inj enc) (hr : rdSL S args = some (enc a)) (hk : k a) : SpD E f args S K d = K (r a) (killH (topIdsL args) S) :=
  Is.spD (Is.prim h (primH_eq hi hr (gd_eq hk))) K d
end
theorem AllOK.addH {P : Program} {E : Env} (hmix : P.follows .mixedOrders = true) (hE : AllOK P E) {α : Type} {enc : α → List AV} {res : α → Option AV} {f : Nat} (h : OkG E f enc res) : AllOK P (E.add f (primH enc res)) := fun w0 =>
  { fn := (hE w0).fn
    prim := fun g q hq cf hcf args S v S' hp φ w vs hr hv => by
      simp only [Env.add] at hq
      split at hq
      · rename_i hg; subst hg; cases hq
        obtain ⟨a, h1, h2, rfl⟩ := primH_inv hp
        obtain ⟨φ1, g1, g2, g3⟩ := hr.giveH (topIdsL args)
        obtain ⟨v1, S1, ⟨N, hN⟩, hc⟩ := h a v (killH (topIdsL args) S) h2
        have hv0 : Vs w0 φ1 (enc a) vs := rdSL_V hr g1.fz g3 h1 hv
        rcases run_ok hmix (hE w0) N g (enc a) _ v1 S1 (hN N (Nat.le_refl _)) _ w vs g2 hv0 with k | ⟨f, bs, w1, k1, k2⟩
        · obtain ⟨φ', cv, w', k1, k2, k3, k4⟩ := k
          obtain ⟨φ2, m1, m2, m3⟩ := hc.rel g2 k2 k3 k4
          exact .inl ⟨φ2, cv, w', k1, g1.trans m1, m2, m3⟩
        · refine .inr ⟨f, bs, w1, k1, k2.mono fun e w' hb => ?_⟩
          obtain ⟨φ', cv, e1, e2, e3, e4⟩ := hb
          obtain ⟨φ2, m1, m2, m3⟩ := hc.rel g2 e2 e3 e4
          exact ⟨φ2, cv, e1, g1.trans m1, m2, m3⟩
      · exact (hE w0).prim g q hq cf hcf args S v S' hp φ w vs hr hv }

/-- rows that a store's objects lead to are in it -/
def Wf (S : Store) : Prop := ∀ (i : Nat) (cs : List AV), S[i]? = some (.cells cs) → ∀ (id off n sz : Nat), AV.sl id off n sz ∈ cs → id < S.length
theorem Rel.wf {w0 w : World} {φ : Pc} {S : Store} (hr : Rel w0 φ S w) : Wf S := fun i cs h id off n sz hm => by
  obtain ⟨p, hp⟩ := hr.place h
  obtain ⟨h1, h2, ccs, e, fr, h3, h4, h5, h6, h7⟩ := hr.obj i p _ hp h
  obtain ⟨j, hj, he⟩ := List.getElem_of_mem hm
  obtain ⟨cv, _, a2, _⟩ := h7 j _ (by rw [List.getElem?_eq_getElem hj, he])
  obtain ⟨a, c, q, _, hq, _⟩ := a2.sl_inv
  rw [← hr.len]; exact (List.getElem?_eq_some_iff.1 hq).1
def OkGW {α : Type} (E : Env) (f : Nat) (enc : α → List AV) (res : α → Option AV) : Prop := ∀ a v S, Wf S → res a = some v → ∃ v1 S1, Is E f (enc a) S v1 S1 ∧ Conv S S1 v1 S v
theorem OkGW.code {α : Type} {E : Env} {f : Nat} {fn : AFunc} {enc : α → List AV} {k : α → Prop} {r : α → AV} (hp : E.prim f = none) (hf : E.F f = some fn) (hl : ∀ a, (enc a).length = fn.np) (h : ∀ a S, Wf S → k a → wpC E fn.body (initA (enc a)) S (fin fn.res fun v T => Conv S T v S (r a)) .mk) : OkGW E f enc (gd k r) := fun a v S hw hv => by
  obtain ⟨hk, rfl⟩ := gd_inv hv
  obtain ⟨v, S', hc, hi⟩ := Sp.intro hp hf (hl a) (h a S hw hk)
  exact ⟨v, S', hi, hc⟩
theorem AllOK.addGW {P : Program} {E : Env} (hmix : P.follows .mixedOrders = true) (hE : AllOK P E) {α : Type} {enc : α → List AV} {res : α → Option AV} {f : Nat} (h : OkGW E f enc res) : AllOK P (E.add f (primG enc res)) := fun w0 =>
  { fn := (hE w0).fn
    prim := fun g q hq cf hcf args S v S' hp φ w vs hr hv => by
      simp only [Env.add] at hq
      split at hq
      · rename_i hg; subst hg; cases hq
        obtain ⟨a, h1, h2, rfl⟩ := primG_inv hp
        obtain ⟨φ1, g1, g2, g3⟩ := hr.give (topIdsL args)
        obtain ⟨v1, S1, ⟨N, hN⟩, hc⟩ := h a v (killL (topIdsL args) S) g2.wf h2
        have hv0 : Vs w0 φ1 (enc a) vs := rdSL_V hr g1.fz g3 h1 hv
        rcases run_ok hmix (hE w0) N g (enc a) _ v1 S1 (hN N (Nat.le_refl _)) _ w vs g2 hv0 with k | ⟨f, bs, w1, k1, k2⟩
        · obtain ⟨φ', cv, w', k1, k2, k3, k4⟩ := k
          obtain ⟨φ2, m1, m2, m3⟩ := hc.rel g2 k2 k3 k4
          exact .inl ⟨φ2, cv, w', k1, g1.trans m1, m2, m3⟩
        · refine .inr ⟨f, bs, w1, k1, k2.mono fun e w' hb => ?_⟩
          obtain ⟨φ', cv, e1, e2, e3, e4⟩ := hb
          obtain ⟨φ2, m1, m2, m3⟩ := hc.rel g2 e2 e3 e4
          exact ⟨φ2, cv, e1, g1.trans m1, m2, m3⟩
      · exact (hE w0).prim g q hq cf hcf args S v S' hp φ w vs hr hv }
/-- objects that lead to none of the rows stay as they are -/
theorem thawO_same {T : Store} {ids : List Nat} {o : AObj} (h : ∀ cs, o = .cells cs → ∀ (id off n sz : Nat), AV.sl id off n sz ∈ cs → id ∉ ids) : thawO T ids o = o := by
  cases o with
  | cells cs =>
    simp only [thawO]; congr 1
    refine (List.map_congr_left fun v hv => ?_).trans (List.map_id' cs)
    cases v with
    | sl id off n sz => simp only [thawV]; rw [if_neg (by simpa using h cs rfl id off n sz hv)]
    | _ => rfl
  | _ => rfl
theorem map_thaw {S T : Store} {ids : List Nat} (hw : Wf S) (h : ∀ i, i ∈ ids → S.length ≤ i) : S.map (thawO T ids) = S := by
  refine (List.map_congr_left fun o ho => ?_).trans (List.map_id' S)
  obtain ⟨i, hi, rfl⟩ := List.getElem_of_mem ho
  refine thawO_same fun cs hc id off n sz hm hid => ?_
  have h1 := hw i cs (by rw [List.getElem?_eq_getElem hi, hc]) id off n sz hm
  have h2 := h id hid
  omega
end Go.Proofs.Ytaajlbbooneiiaa.Avm
set_option linter.unusedVariables false
set_option linter.unusedSimpArgs false
namespace Go.Proofs.Ytaajlbbooneiiaa.Avm

inductive Val where
  | mk (k n : Int) (b : List UInt8) (l : List Val)
def Val.kind : Val → Int | .mk k _ _ _ => k
def Val.num : Val → Int | .mk _ n _ _ => n
def Val.bytes : Val → List UInt8 | .mk _ _ b _ => b
def Val.list : Val → List Val | .mk _ _ _ l => l
mutual
def Val.c : Val → List AV
  | .mk k n b l => [.int .i64 k, .int .i64 n, enc b, .csl (Val.cL l) l.length]
def Val.cL : List Val → List AV
  | [] => []
  | v :: l => Val.c v ++ Val.cL l
end
theorem Val.c_len (v : Val) : (Val.c v).length = 4 := by cases v; rfl
mutual
theorem Val.c_inj : ∀ a b : Val, Val.c a = Val.c b → a = b
  | .mk k n b l, .mk k' n' b' l', h => by
    simp only [Val.c, List.cons.injEq, AV.int.injEq, AV.csl.injEq, true_and, and_true, enc_inj] at h
    obtain ⟨rfl, rfl, rfl, h1, h2⟩ := h
    rw [Val.cL_inj l l' h2 h1]
theorem Val.cL_inj : ∀ l m : List Val, l.length = m.length → Val.cL l = Val.cL m → l = m
  | [], [], _, _ => rfl
  | [], _ :: _, h, _ => by simp at h
  | _ :: _, [], h, _ => by simp at h
  | a :: l, b :: m, hl, h => by
    simp only [Val.cL] at h
    have := List.append_inj h (by rw [Val.c_len, Val.c_len])
    rw [Val.c_inj a b this.1, Val.cL_inj l m (by simpa using hl) this.2]
end
mutual
theorem Val.c_pure : ∀ a : Val, PureL (Val.c a)
  | .mk k n b l => by
    simp only [Val.c]
    have h := Val.cL_pure l
    refine rd0L_cons rfl (rd0L_cons rfl (rd0L_cons (enc_rd0 b) (rd0L_cons ?_ .nil)))
    simp only [rd0]; rw [show rd0L (Val.cL l) = some (Val.cL l) from h]; rfl
theorem Val.cL_pure : ∀ l : List Val, PureL (Val.cL l)
  | [] => .nil
  | a :: l => by
    simp only [Val.cL]
    exact (Val.c_pure a).append (Val.cL_pure l)
end
instance : Rec Val where
  sz := 4
  c := Val.c
  len := Val.c_len
  pos := by decide
  inj := Val.c_inj
  pure := Val.c_pure
theorem Val.cL_eq : ∀ l : List Val, Val.cL l = cl l
  | [] => rfl
  | a :: l => by rw [Val.cL, Val.cL_eq l, cl_cons]; rfl
abbrev valL (v : Val) : List AV := [.int .i64 v.kind, .int .i64 v.num, enc v.bytes, enc v.list]
@[go_sem] theorem c_val (v : Val) : Rec.c v = valL v := by
  cases v; simp only [valL, Val.kind, Val.num, Val.bytes, Val.list, enc, ← Val.cL_eq]; rfl
@[go_sem] theorem z_val : Rec.sz Val = 4 := rfl
theorem val_inj {a b : Val} : a.kind = b.kind ∧ a.num = b.num ∧ a.bytes = b.bytes ∧ a.list = b.list ↔ a = b := by
  cases a; cases b; simp [Val.kind, Val.num, Val.bytes, Val.list]
theorem csl_v1 (v : Val) : AV.csl [.int .i64 v.kind, .int .i64 v.num, enc v.bytes, enc v.list] 1 = enc [v] := by
  show AV.csl (valL v) 1 = _
  rw [← c_val]; simp only [enc, cl_one, List.length_singleton]
attribute [go_sem] csl_v1 Int.natCast_zero
@[go_sem] theorem res_cell (g : Frame) (S : Store) (b : Bool) (n t : Nat) (rest : List ARes) : resA g S (.cell b n t :: rest) = (loadA S b n (g t)).bind fun v => (resA g S rest).map (v :: ·) := rfl
@[go_sem] theorem k_mk (k n : Int) (b : List UInt8) (l : List Val) : (Val.mk k n b l).kind = k := rfl
@[go_sem] theorem n_mk (k n : Int) (b : List UInt8) (l : List Val) : (Val.mk k n b l).num = n := rfl
@[go_sem] theorem b_mk (k n : Int) (b : List UInt8) (l : List Val) : (Val.mk k n b l).bytes = b := rfl
@[go_sem] theorem l_mk (k n : Int) (b : List UInt8) (l : List Val) : (Val.mk k n b l).list = l := rfl

/-! numbers as bytes -/
def leN : Nat → Nat → List UInt8
  | 0, _ => []
  | s + 1, n => UInt8.ofNat (n % 256) :: leN s (n / 256)
theorem leN_len : ∀ s n, (leN s n).length = s
  | 0, _ => rfl
  | s + 1, n => by simp [leN, leN_len s]
def lowP (n k : Int) : List UInt8 × Int := if 1 ≤ k ∧ k ≤ 8 ∧ 0 ≤ n ∧ n ≤ 4611686018427387904 ∧ n.toNat < 256 ^ k.toNat then (leN k.toNat n.toNat, 0) else ([], 2)
def putP (n k : Int) : List UInt8 × Int := ((lowP n k).1.reverse, (lowP n k).2)
def ofBE (b : List UInt8) : Nat := b.foldl (fun x c => x * 256 + c.toNat) 0
def getP (b : List UInt8) : Int × Int := if b.length = 0 then (0, 10) else if 8 < b.length then (0, 2) else if 4611686018427387904 < ofBE b then (0, 11) else (ofBE b, 0)
def plainP (n : Int) : List UInt8 := (putP n 8).1.dropWhile (· == 0)

/-! values -/
def nul : Val := .mk 0 0 [] []
def pure1 (v : Val) : Bool :=
  if v.kind = 1 then decide (0 ≤ v.num ∧ v.num ≤ 4611686018427387904) && (decide (v.bytes.length = 0) && decide (v.list.length = 0))
  else if v.kind = 2 then decide (v.num = 0) && (decide (v.bytes.length ≤ 1048576) && decide (v.list.length = 0))
  else if v.kind = 3 then decide (v.num = 0) && (decide (v.bytes.length = 0) && decide (v.list.length ≤ 4096))
  else false
mutual
def pureA : Val → Bool
  | .mk k n b l => pure1 (.mk k n b l) && pureAL l
def pureAL : List Val → Bool
  | [] => true
  | v :: l => pureA v && pureAL l
end
mutual
def deepA : Val → Nat
  | .mk k _ _ l => if k = 3 then deepAL l + 1 else 0
def deepAL : List Val → Nat
  | [] => 0
  | v :: l => max (deepA v) (deepAL l)
end
mutual
def bytesA : Val → List UInt8
  | .mk k n b l => if k = 1 then 1 :: UInt8.ofNat (plainP n).length :: plainP n else if k = 2 then 2 :: ((putP b.length 3).1 ++ b) else 3 :: ((putP l.length 2).1 ++ bytesAL l)
def bytesAL : List Val → List UInt8
  | [] => []
  | v :: l => bytesA v ++ bytesAL l
end
mutual
def measA : Val → Int → Int → Int × Bool
  | .mk k n b l, room, deep =>
    if (!pure1 (.mk k n b l) || (decide (room < 0) || decide (deep < 0))) = true then (0, false)
    else if k = 1 then (2 + ((plainP n).length : Nat), true) else if k = 2 then (4 + (b.length : Nat), true)
    else if deep = 0 then (0, false) else measAL l room (deep - 1) 3
def measAL : List Val → Int → Int → Int → Int × Bool
  | [], _, _, acc => (acc, true)
  | v :: l, room, deep, acc => if (measA v (room - acc) deep).2 = true then measAL l room deep (acc + (measA v (room - acc) deep).1) else (0, false)
end
def sizeP (v : Val) : Int × Bool := if (!(measA v 1048576 16).2 || decide (1048576 < (measA v 1048576 16).1)) = true then (0, false) else ((measA v 1048576 16).1, true)
def encodeP (v : Val) : List UInt8 × Int := if (sizeP v).2 = true then (bytesA v, 0) else ([], 2)

/-! reading -/
abbrev Rdr := List UInt8 × Int
def rdrL (s : Rdr) : List AV := [enc s.1, .int .i64 s.2]
theorem i_rdr : Inj rdrL := fun a b h => by
  simp only [rdrL, List.cons.injEq, enc_inj, AV.int.injEq, true_and, and_true] at h
  exact Prod.ext h.1 h.2
def takeP (s : Rdr) (n : Nat) : List UInt8 × Rdr := if s.2 = 0 then (if s.1.length < n then ([], (s.1, 10)) else (s.1.take n, (s.1.drop n, 0))) else ([], s)
def failP (s : Rdr) : Rdr := if s.2 = 0 then (s.1, 11) else s
def countP (s : Rdr) (n : Nat) : Nat × Rdr := (((getP (takeP s n).1).1).toNat, (takeP s n).2)
def numberP (s : Rdr) : Val × Rdr :=
  let s1 := countP s 1
  let s2 := if 8 < s1.1 then failP s1.2 else s1.2
  let s3 := takeP s2 s1.1
  if s3.1.length = 0 then (.mk 1 0 [] [], s3.2)
  else (.mk 1 (getP s3.1).1 [] [], if (getP s3.1).2 ≠ 0 ∨ s3.1.headD 0 = 0 then failP s3.2 else s3.2)
def itemsP (f : Rdr → Val × Rdr) : Nat → List Val → Rdr → List Val × Rdr
  | 0, acc, s => (acc, s)
  | n + 1, acc, s => if s.2 = 0 then itemsP f n (acc ++ [(f s).1]) (f s).2 else (acc, s)
def valueP : Nat → Rdr → Val × Rdr
  | deep, s =>
    let k := takeP s 1
    if k.2.2 ≠ 0 then (nul, k.2)
    else if (k.1.headD 0).toNat = 1 then numberP k.2
    else if (k.1.headD 0).toNat = 2 then
      let c := countP k.2 3
      (.mk 2 0 (takeP c.2 c.1).1 [], (takeP c.2 c.1).2)
    else if (k.1.headD 0).toNat = 3 then
      let c := countP k.2 2
      match deep with
      | 0 => (.mk 3 0 [] [], failP c.2)
      | deep + 1 =>
        let s1 := if 4096 < c.1 then failP c.2 else c.2
        (.mk 3 0 [] (itemsP (valueP deep) c.1 [] s1).1, (itemsP (valueP deep) c.1 [] s1).2)
    else (nul, failP k.2)
def decodeP (b : List UInt8) : Val × Int :=
  if 1048576 < b.length then (nul, 3)
  else
    let r := valueP 16 (b, 0)
    let e := if r.2.2 = 0 ∧ 0 < r.2.1.length then 12 else r.2.2
    if e ≠ 0 then (nul, e) else (r.1, 0)
def fieldsP (v : Val) (ks : List Int) : List Val × Bool := if v.kind = 3 ∧ v.list.map (·.kind) = ks then (v.list, true) else ([], false)

/-- codec.Of: the list as it is -/
def p_of02 (args : List AV) (S : Store) : Option (AV × Store) := match args with
  | [x] => if AV.beqL x.cells [x] = true then some (.agg [.int .i64 3, .int .i64 0, enc ([] : List UInt8), x], S) else none
  | _ => none
theorem c_of02 {E : Env} (h : E.prim 18 = some fun _ => p_of02) (x : AV) (hx : x.cells = [x]) {S : Store} {K : AV → Store → Prop} {d : Dm K} : SpD E 18 [x] S K d = K (.agg [.int .i64 3, .int .i64 0, enc ([] : List UInt8), x]) S :=
  Is.spD (Is.prim h (by simp only [p_of02]; rw [if_pos (by rw [hx]; exact AV.beqL_refl _)])) K d
def e_num02 : Int → List AV := fun n => [.int .i64 n]
def k_num02 : Int → Prop := fun n => True
def r_num02 : Int → AV := fun n => .agg (valL (.mk 1 n [] []))
noncomputable def p_num02 : List AV → Store → Option (AV × Store) := primG e_num02 (gd k_num02 r_num02)
theorem i_num02 : Inj e_num02 := by
  intro n1 n2 h
  simpa only [e_num02, enc_inj, rec_inj, AV.str.injEq, AV.int.injEq, AV.bool.injEq, AV.agg.injEq, AV.ptr.injEq, AV.fn.injEq, List.cons.injEq, and_true, true_and, Prod.mk.injEq] using h
theorem c_num02 {E : Env} (h : E.prim 20 = some fun _ => p_num02) (n : Int) {S : Store} {K : AV → Store → Prop} {d : Dm K} : SpD E 20 [.int .i64 n] S K d = K (.agg (valL (.mk 1 n [] []))) S := by
  have := callG h i_num02 (a := n) (S := S) (args := [.int .i64 n]) (K := K) (d := d) (by simp only [e_num02, rdSL_cons, rdSL_nil, rdS_int, rdS_bool, rdS_str, enc_rdS, rdS_fn0, rdS_csl0, rdS_rec, rdSL_rec, rdS_agg, rdS_tup, Option.bind_some, Option.map_some]) trivial
  simpa only [r_num02, topL_cons, topL_nil, top_int, top_bool, top_str, top_csl, enc_top, top_agg, top_rec, top_fn, List.nil_append, killL_nil] using this
theorem c_num02' {E : Env} (h : E.prim 20 = some fun _ => p_num02) {S : Store} {x0 : AV} {n : Int} (h0 : rdS S x0 = some (.int .i64 n)) {K : AV → Store → Prop} {d : Dm K} : SpD E 20 [x0] S K d = K (.agg (valL (.mk 1 n [] []))) (killL (topIdsL [x0]) S) :=
  callG h i_num02 (a := n) (by simp only [e_num02, rdSL, h0, Option.bind_some, Option.map_some]) trivial
def e_raw02 : List UInt8 → List AV := fun b => [enc b]
def k_raw02 : List UInt8 → Prop := fun b => True
def r_raw02 : List UInt8 → AV := fun b => .agg (valL (.mk 2 0 b []))
noncomputable def p_raw02 : List AV → Store → Option (AV × Store) := primG e_raw02 (gd k_raw02 r_raw02)
theorem i_raw02 : Inj e_raw02 := by
  intro b1 b2 h
  simpa only [e_raw02, enc_inj, rec_inj, AV.str.injEq, AV.int.injEq, AV.bool.injEq, AV.agg.injEq, AV.ptr.injEq, AV.fn.injEq, List.cons.injEq, and_true, true_and, Prod.mk.injEq] using h
theorem c_raw02 {E : Env} (h : E.prim 22 = some fun _ => p_raw02) (b : List UInt8) {S : Store} {K : AV → Store → Prop} {d : Dm K} : SpD E 22 [enc b] S K d = K (.agg (valL (.mk 2 0 b []))) S := by
  have := callG h i_raw02 (a := b) (S := S) (args := [enc b]) (K := K) (d := d) (by simp only [e_raw02, rdSL_cons, rdSL_nil, rdS_int, rdS_bool, rdS_str, enc_rdS, rdS_fn0, rdS_csl0, rdS_rec, rdSL_rec, rdS_agg, rdS_tup, Option.bind_some, Option.map_some]) trivial
  simpa only [r_raw02, topL_cons, topL_nil, top_int, top_bool, top_str, top_csl, enc_top, top_agg, top_rec, top_fn, List.nil_append, killL_nil] using this
theorem c_raw02' {E : Env} (h : E.prim 22 = some fun _ => p_raw02) {S : Store} {x0 : AV} {b : List UInt8} (h0 : rdS S x0 = some (enc b)) {K : AV → Store → Prop} {d : Dm K} : SpD E 22 [x0] S K d = K (.agg (valL (.mk 2 0 b []))) (killL (topIdsL [x0]) S) :=
  callG h i_raw02 (a := b) (by simp only [e_raw02, rdSL, h0, Option.bind_some, Option.map_some]) trivial
def e_low : Int × Int → List AV := fun | (n, k) => [.int .i64 n, .int .i64 k]
def k_low : Int × Int → Prop := fun | (n, k) => True
def r_low : Int × Int → AV := fun | (n, k) => .tup [enc (lowP n k).1, .int .i64 (lowP n k).2]
noncomputable def p_low : List AV → Store → Option (AV × Store) := primG e_low (gd k_low r_low)
theorem i_low : Inj e_low := by
  rintro ⟨n1, k1⟩ ⟨n2, k2⟩ h
  simpa only [e_low, enc_inj, rec_inj, AV.str.injEq, AV.int.injEq, AV.bool.injEq, AV.agg.injEq, AV.ptr.injEq, AV.fn.injEq, List.cons.injEq, and_true, true_and, Prod.mk.injEq] using h
theorem c_low {E : Env} (h : E.prim 58 = some fun _ => p_low) (n : Int) (k : Int) {S : Store} {K : AV → Store → Prop} {d : Dm K} : SpD E 58 [.int .i64 n, .int .i64 k] S K d = K (.tup [enc (lowP n k).1, .int .i64 (lowP n k).2]) S := by
  have := callG h i_low (a := (n, k)) (S := S) (args := [.int .i64 n, .int .i64 k]) (K := K) (d := d) (by simp only [e_low, rdSL_cons, rdSL_nil, rdS_int, rdS_bool, rdS_str, enc_rdS, rdS_fn0, rdS_csl0, rdS_rec, rdSL_rec, rdS_agg, rdS_tup, Option.bind_some, Option.map_some]) trivial
  simpa only [r_low, topL_cons, topL_nil, top_int, top_bool, top_str, top_csl, enc_top, top_agg, top_rec, top_fn, List.nil_append, killL_nil] using this
theorem c_low' {E : Env} (h : E.prim 58 = some fun _ => p_low) {S : Store} {x0 x1 : AV} {n : Int} {k : Int} (h0 : rdS S x0 = some (.int .i64 n)) (h1 : rdS S x1 = some (.int .i64 k)) {K : AV → Store → Prop} {d : Dm K} : SpD E 58 [x0, x1] S K d = K (.tup [enc (lowP n k).1, .int .i64 (lowP n k).2]) (killL (topIdsL [x0, x1]) S) :=
  callG h i_low (a := (n, k)) (by simp only [e_low, rdSL, h0, h1, Option.bind_some, Option.map_some]) trivial
def e_turned : List UInt8 → List AV := fun b => [enc b]
def k_turned : List UInt8 → Prop := fun b => b.length ≤ 1000000
def r_turned : List UInt8 → AV := fun b => enc b.reverse
noncomputable def p_turned : List AV → Store → Option (AV × Store) := primG e_turned (gd k_turned r_turned)
theorem i_turned : Inj e_turned := by
  intro b1 b2 h
  simpa only [e_turned, enc_inj, rec_inj, AV.str.injEq, AV.int.injEq, AV.bool.injEq, AV.agg.injEq, AV.ptr.injEq, AV.fn.injEq, List.cons.injEq, and_true, true_and, Prod.mk.injEq] using h
theorem c_turned {E : Env} (h : E.prim 59 = some fun _ => p_turned) (b : List UInt8) (hk : b.length ≤ 1000000) {S : Store} {K : AV → Store → Prop} {d : Dm K} : SpD E 59 [enc b] S K d = K (enc b.reverse) S := by
  have := callG h i_turned (a := b) (S := S) (args := [enc b]) (K := K) (d := d) (by simp only [e_turned, rdSL_cons, rdSL_nil, rdS_int, rdS_bool, rdS_str, enc_rdS, rdS_fn0, rdS_csl0, rdS_rec, rdSL_rec, rdS_agg, rdS_tup, Option.bind_some, Option.map_some]) hk
  simpa only [r_turned, topL_cons, topL_nil, top_int, top_bool, top_str, top_csl, enc_top, top_agg, top_rec, top_fn, List.nil_append, killL_nil] using this
theorem c_turned' {E : Env} (h : E.prim 59 = some fun _ => p_turned) {S : Store} {x0 : AV} {b : List UInt8} (h0 : rdS S x0 = some (enc b)) (hk : b.length ≤ 1000000) {K : AV → Store → Prop} {d : Dm K} : SpD E 59 [x0] S K d = K (enc b.reverse) (killL (topIdsL [x0]) S) :=
  callG h i_turned (a := b) (by simp only [e_turned, rdSL, h0, Option.bind_some, Option.map_some]) hk
def e_put01 : Int × Int → List AV := fun | (n, k) => [.int .i64 n, .int .i64 k]
def k_put01 : Int × Int → Prop := fun | (n, k) => True
def r_put01 : Int × Int → AV := fun | (n, k) => .tup [enc (putP n k).1, .int .i64 (putP n k).2]
noncomputable def p_put01 : List AV → Store → Option (AV × Store) := primG e_put01 (gd k_put01 r_put01)
theorem i_put01 : Inj e_put01 := by
  rintro ⟨n1, k1⟩ ⟨n2, k2⟩ h
  simpa only [e_put01, enc_inj, rec_inj, AV.str.injEq, AV.int.injEq, AV.bool.injEq, AV.agg.injEq, AV.ptr.injEq, AV.fn.injEq, List.cons.injEq, and_true, true_and, Prod.mk.injEq] using h
theorem c_put01 {E : Env} (h : E.prim 47 = some fun _ => p_put01) (n : Int) (k : Int) {S : Store} {K : AV → Store → Prop} {d : Dm K} : SpD E 47 [.int .i64 n, .int .i64 k] S K d = K (.tup [enc (putP n k).1, .int .i64 (putP n k).2]) S := by
  have := callG h i_put01 (a := (n, k)) (S := S) (args := [.int .i64 n, .int .i64 k]) (K := K) (d := d) (by simp only [e_put01, rdSL_cons, rdSL_nil, rdS_int, rdS_bool, rdS_str, enc_rdS, rdS_fn0, rdS_csl0, rdS_rec, rdSL_rec, rdS_agg, rdS_tup, Option.bind_some, Option.map_some]) trivial
  simpa only [r_put01, topL_cons, topL_nil, top_int, top_bool, top_str, top_csl, enc_top, top_agg, top_rec, top_fn, List.nil_append, killL_nil] using this
theorem c_put01' {E : Env} (h : E.prim 47 = some fun _ => p_put01) {S : Store} {x0 x1 : AV} {n : Int} {k : Int} (h0 : rdS S x0 = some (.int .i64 n)) (h1 : rdS S x1 = some (.int .i64 k)) {K : AV → Store → Prop} {d : Dm K} : SpD E 47 [x0, x1] S K d = K (.tup [enc (putP n k).1, .int .i64 (putP n k).2]) (killL (topIdsL [x0, x1]) S) :=
  callG h i_put01 (a := (n, k)) (by simp only [e_put01, rdSL, h0, h1, Option.bind_some, Option.map_some]) trivial
def e_get01 : List UInt8 → List AV := fun b => [enc b]
def k_get01 : List UInt8 → Prop := fun b => True
def r_get01 : List UInt8 → AV := fun b => .tup [.int .i64 (getP b).1, .int .i64 (getP b).2]
noncomputable def p_get01 : List AV → Store → Option (AV × Store) := primS e_get01 (gd k_get01 r_get01)
theorem i_get01 : Inj e_get01 := by
  intro b1 b2 h
  simpa only [e_get01, enc_inj, rec_inj, AV.str.injEq, AV.int.injEq, AV.bool.injEq, AV.agg.injEq, AV.ptr.injEq, AV.fn.injEq, List.cons.injEq, and_true, true_and, Prod.mk.injEq] using h
theorem c_get01 {E : Env} (h : E.prim 60 = some fun _ => p_get01) (b : List UInt8) {S : Store} {K : AV → Store → Prop} {d : Dm K} : SpD E 60 [enc b] S K d = K (.tup [.int .i64 (getP b).1, .int .i64 (getP b).2]) S :=
  callS h i_get01 (a := b) (by simp only [e_get01, rdSL_cons, rdSL_nil, rdS_int, rdS_bool, rdS_str, enc_rdS, rdS_fn0, rdS_csl0, rdS_rec, rdSL_rec, rdS_agg, rdS_tup, Option.bind_some, Option.map_some]) trivial
theorem c_get01' {E : Env} (h : E.prim 60 = some fun _ => p_get01) {S : Store} {x0 : AV} {b : List UInt8} (h0 : rdS S x0 = some (enc b)) {K : AV → Store → Prop} {d : Dm K} : SpD E 60 [x0] S K d = K (.tup [.int .i64 (getP b).1, .int .i64 (getP b).2]) S :=
  callS h i_get01 (a := b) (by simp only [e_get01, rdSL, h0, Option.bind_some, Option.map_some]) trivial
def e_plain : Int → List AV := fun n => [.int .i64 n]
def k_plain : Int → Prop := fun n => True
def r_plain : Int → AV := fun n => enc (plainP n)
noncomputable def p_plain : List AV → Store → Option (AV × Store) := primG e_plain (gd k_plain r_plain)
theorem i_plain : Inj e_plain := by
  intro n1 n2 h
  simpa only [e_plain, enc_inj, rec_inj, AV.str.injEq, AV.int.injEq, AV.bool.injEq, AV.agg.injEq, AV.ptr.injEq, AV.fn.injEq, List.cons.injEq, and_true, true_and, Prod.mk.injEq] using h
theorem c_plain {E : Env} (h : E.prim 46 = some fun _ => p_plain) (n : Int) {S : Store} {K : AV → Store → Prop} {d : Dm K} : SpD E 46 [.int .i64 n] S K d = K (enc (plainP n)) S := by
  have := callG h i_plain (a := n) (S := S) (args := [.int .i64 n]) (K := K) (d := d) (by simp only [e_plain, rdSL_cons, rdSL_nil, rdS_int, rdS_bool, rdS_str, enc_rdS, rdS_fn0, rdS_csl0, rdS_rec, rdSL_rec, rdS_agg, rdS_tup, Option.bind_some, Option.map_some]) trivial
  simpa only [r_plain, topL_cons, topL_nil, top_int, top_bool, top_str, top_csl, enc_top, top_agg, top_rec, top_fn, List.nil_append, killL_nil] using this
theorem c_plain' {E : Env} (h : E.prim 46 = some fun _ => p_plain) {S : Store} {x0 : AV} {n : Int} (h0 : rdS S x0 = some (.int .i64 n)) {K : AV → Store → Prop} {d : Dm K} : SpD E 46 [x0] S K d = K (enc (plainP n)) (killL (topIdsL [x0]) S) :=
  callG h i_plain (a := n) (by simp only [e_plain, rdSL, h0, Option.bind_some, Option.map_some]) trivial
def e_pure : Val → List AV := fun v => [.agg (valL v)]
def k_pure : Val → Prop := fun v => True
def r_pure : Val → AV := fun v => .bool (pure1 v)
noncomputable def p_pure : List AV → Store → Option (AV × Store) := primS e_pure (gd k_pure r_pure)
theorem i_pure : Inj e_pure := by
  intro v1 v2 h
  simpa only [e_pure, enc_inj, rec_inj, AV.str.injEq, AV.int.injEq, AV.bool.injEq, AV.agg.injEq, AV.ptr.injEq, AV.fn.injEq, List.cons.injEq, and_true, true_and, Prod.mk.injEq, val_inj] using h
theorem c_pure {E : Env} (h : E.prim 57 = some fun _ => p_pure) (v : Val) {S : Store} {K : AV → Store → Prop} {d : Dm K} : SpD E 57 [.agg (valL v)] S K d = K (.bool (pure1 v)) S :=
  callS h i_pure (a := v) (by simp only [e_pure, rdSL_cons, rdSL_nil, rdS_int, rdS_bool, rdS_str, enc_rdS, rdS_fn0, rdS_csl0, rdS_rec, rdSL_rec, rdS_agg, rdS_tup, Option.bind_some, Option.map_some]) trivial
theorem c_pure' {E : Env} (h : E.prim 57 = some fun _ => p_pure) {S : Store} {x0 : AV} {v : Val} (h0 : rdS S x0 = some (.agg (valL v))) {K : AV → Store → Prop} {d : Dm K} : SpD E 57 [x0] S K d = K (.bool (pure1 v)) S :=
  callS h i_pure (a := v) (by simp only [e_pure, rdSL, h0, Option.bind_some, Option.map_some]) trivial
def e_measure : Val × Int × Int → List AV := fun | (v, room, deep) => [.agg (valL v), .int .i64 room, .int .i64 deep]
def k_measure (dp : Nat) : Val × Int × Int → Prop := fun | (v, room, deep) => 0 ≤ deep ∧ deep < (dp : Int) ∧ deep ≤ 16 ∧ room ≤ 1048576 ∧ -2097152 ≤ room
def r_measure : Val × Int × Int → AV := fun | (v, room, deep) => .tup [.int .i64 (measA v room deep).1, .bool (measA v room deep).2]
noncomputable def p_measure (dp : Nat) : List AV → Store → Option (AV × Store) := primS e_measure (gd (k_measure dp) r_measure)
theorem i_measure : Inj e_measure := by
  rintro ⟨v1, room1, deep1⟩ ⟨v2, room2, deep2⟩ h
  simpa only [e_measure, enc_inj, rec_inj, AV.str.injEq, AV.int.injEq, AV.bool.injEq, AV.agg.injEq, AV.ptr.injEq, AV.fn.injEq, List.cons.injEq, and_true, true_and, Prod.mk.injEq, val_inj] using h
theorem c_measure {E : Env} {dp : Nat} (h : E.prim 45 = some fun _ => p_measure dp) (v : Val) (room : Int) (deep : Int) (hk : 0 ≤ deep ∧ deep < (dp : Int) ∧ deep ≤ 16 ∧ room ≤ 1048576 ∧ -2097152 ≤ room) {S : Store} {K : AV → Store → Prop} {d : Dm K} : SpD E 45 [.agg (valL v), .int .i64 room, .int .i64 deep] S K d = K (.tup [.int .i64 (measA v room deep).1, .bool (measA v room deep).2]) S :=
  callS h i_measure (a := (v, room, deep)) (by simp only [e_measure, rdSL_cons, rdSL_nil, rdS_int, rdS_bool, rdS_str, enc_rdS, rdS_fn0, rdS_csl0, rdS_rec, rdSL_rec, rdS_agg, rdS_tup, Option.bind_some, Option.map_some]) hk
theorem c_measure' {E : Env} {dp : Nat} (h : E.prim 45 = some fun _ => p_measure dp) {S : Store} {x0 x1 x2 : AV} {v : Val} {room : Int} {deep : Int} (h0 : rdS S x0 = some (.agg (valL v))) (h1 : rdS S x1 = some (.int .i64 room)) (h2 : rdS S x2 = some (.int .i64 deep)) (hk : 0 ≤ deep ∧ deep < (dp : Int) ∧ deep ≤ 16 ∧ room ≤ 1048576 ∧ -2097152 ≤ room) {K : AV → Store → Prop} {d : Dm K} : SpD E 45 [x0, x1, x2] S K d = K (.tup [.int .i64 (measA v room deep).1, .bool (measA v room deep).2]) S :=
  callS h i_measure (a := (v, room, deep)) (by simp only [e_measure, rdSL, h0, h1, h2, Option.bind_some, Option.map_some]) hk
def e_size : Val → List AV := fun v => [.agg (valL v)]
def k_size : Val → Prop := fun v => True
def r_size : Val → AV := fun v => .tup [.int .i64 (sizeP v).1, .bool (sizeP v).2]
noncomputable def p_size : List AV → Store → Option (AV × Store) := primS e_size (gd k_size r_size)
theorem i_size : Inj e_size := by
  intro v1 v2 h
  simpa only [e_size, enc_inj, rec_inj, AV.str.injEq, AV.int.injEq, AV.bool.injEq, AV.agg.injEq, AV.ptr.injEq, AV.fn.injEq, List.cons.injEq, and_true, true_and, Prod.mk.injEq, val_inj] using h
theorem c_size {E : Env} (h : E.prim 37 = some fun _ => p_size) (v : Val) {S : Store} {K : AV → Store → Prop} {d : Dm K} : SpD E 37 [.agg (valL v)] S K d = K (.tup [.int .i64 (sizeP v).1, .bool (sizeP v).2]) S :=
  callS h i_size (a := v) (by simp only [e_size, rdSL_cons, rdSL_nil, rdS_int, rdS_bool, rdS_str, enc_rdS, rdS_fn0, rdS_csl0, rdS_rec, rdSL_rec, rdS_agg, rdS_tup, Option.bind_some, Option.map_some]) trivial
theorem c_size' {E : Env} (h : E.prim 37 = some fun _ => p_size) {S : Store} {x0 : AV} {v : Val} (h0 : rdS S x0 = some (.agg (valL v))) {K : AV → Store → Prop} {d : Dm K} : SpD E 37 [x0] S K d = K (.tup [.int .i64 (sizeP v).1, .bool (sizeP v).2]) S :=
  callS h i_size (a := v) (by simp only [e_size, rdSL, h0, Option.bind_some, Option.map_some]) trivial
def e_encode : Val → List AV := fun v => [.agg (valL v)]
def k_encode : Val → Prop := fun v => True
def r_encode : Val → AV := fun v => .tup [enc (encodeP v).1, .int .i64 (encodeP v).2]
noncomputable def p_encode : List AV → Store → Option (AV × Store) := primG e_encode (gd k_encode r_encode)
theorem i_encode : Inj e_encode := by
  intro v1 v2 h
  simpa only [e_encode, enc_inj, rec_inj, AV.str.injEq, AV.int.injEq, AV.bool.injEq, AV.agg.injEq, AV.ptr.injEq, AV.fn.injEq, List.cons.injEq, and_true, true_and, Prod.mk.injEq, val_inj] using h
theorem c_encode {E : Env} (h : E.prim 21 = some fun _ => p_encode) (v : Val) {S : Store} {K : AV → Store → Prop} {d : Dm K} : SpD E 21 [.agg (valL v)] S K d = K (.tup [enc (encodeP v).1, .int .i64 (encodeP v).2]) S := by
  have := callG h i_encode (a := v) (S := S) (args := [.agg (valL v)]) (K := K) (d := d) (by simp only [e_encode, rdSL_cons, rdSL_nil, rdS_int, rdS_bool, rdS_str, enc_rdS, rdS_fn0, rdS_csl0, rdS_rec, rdSL_rec, rdS_agg, rdS_tup, Option.bind_some, Option.map_some]) trivial
  simpa only [r_encode, topL_cons, topL_nil, top_int, top_bool, top_str, top_csl, enc_top, top_agg, top_rec, top_fn, List.nil_append, killL_nil] using this
theorem c_encode' {E : Env} (h : E.prim 21 = some fun _ => p_encode) {S : Store} {x0 : AV} {v : Val} (h0 : rdS S x0 = some (.agg (valL v))) {K : AV → Store → Prop} {d : Dm K} : SpD E 21 [x0] S K d = K (.tup [enc (encodeP v).1, .int .i64 (encodeP v).2]) (killL (topIdsL [x0]) S) :=
  callG h i_encode (a := v) (by simp only [e_encode, rdSL, h0, Option.bind_some, Option.map_some]) trivial
def e_fields : Val × (List Int) → List AV := fun | (v, ks) => [.agg (valL v), enc ks]
def k_fields : Val × (List Int) → Prop := fun | (v, ks) => ks.length ≤ 9223372036854775807 ∧ v.list.length ≤ 9223372036854775807
def r_fields : Val × (List Int) → AV := fun | (v, ks) => .tup [enc (fieldsP v ks).1, .bool (fieldsP v ks).2]
noncomputable def p_fields : List AV → Store → Option (AV × Store) := primG e_fields (gd k_fields r_fields)
theorem i_fields : Inj e_fields := by
  rintro ⟨v1, ks1⟩ ⟨v2, ks2⟩ h
  simpa only [e_fields, enc_inj, rec_inj, AV.str.injEq, AV.int.injEq, AV.bool.injEq, AV.agg.injEq, AV.ptr.injEq, AV.fn.injEq, List.cons.injEq, and_true, true_and, Prod.mk.injEq, val_inj] using h
theorem c_fields {E : Env} (h : E.prim 27 = some fun _ => p_fields) (v : Val) (ks : List Int) (hk : ks.length ≤ 9223372036854775807 ∧ v.list.length ≤ 9223372036854775807) {S : Store} {K : AV → Store → Prop} {d : Dm K} : SpD E 27 [.agg (valL v), enc ks] S K d = K (.tup [enc (fieldsP v ks).1, .bool (fieldsP v ks).2]) S := by
  have := callG h i_fields (a := (v, ks)) (S := S) (args := [.agg (valL v), enc ks]) (K := K) (d := d) (by simp only [e_fields, rdSL_cons, rdSL_nil, rdS_int, rdS_bool, rdS_str, enc_rdS, rdS_fn0, rdS_csl0, rdS_rec, rdSL_rec, rdS_agg, rdS_tup, Option.bind_some, Option.map_some]) hk
  simpa only [r_fields, topL_cons, topL_nil, top_int, top_bool, top_str, top_csl, enc_top, top_agg, top_rec, top_fn, List.nil_append, killL_nil] using this
theorem c_fields' {E : Env} (h : E.prim 27 = some fun _ => p_fields) {S : Store} {x0 x1 : AV} {v : Val} {ks : List Int} (h0 : rdS S x0 = some (.agg (valL v))) (h1 : rdS S x1 = some (enc ks)) (hk : ks.length ≤ 9223372036854775807 ∧ v.list.length ≤ 9223372036854775807) {K : AV → Store → Prop} {d : Dm K} : SpD E 27 [x0, x1] S K d = K (.tup [enc (fieldsP v ks).1, .bool (fieldsP v ks).2]) (killL (topIdsL [x0, x1]) S) :=
  callG h i_fields (a := (v, ks)) (by simp only [e_fields, rdSL, h0, h1, Option.bind_some, Option.map_some]) hk
def e_take : Nat → List AV := fun n => [.int .i64 n]
def k_take : Rdr → Nat → Prop := fun s => fun n => True
def r_take : Rdr → Nat → AV × Rdr := fun s => fun n => (enc (takeP s n).1, (takeP s n).2)
noncomputable def p_take : List AV → Store → Option (AV × Store) := primM rdrL e_take (gdM k_take r_take)
theorem i_take : Inj e_take := by
  intro n1 n2 h
  simpa only [e_take, enc_inj, rec_inj, AV.str.injEq, AV.int.injEq, AV.bool.injEq, AV.agg.injEq, AV.ptr.injEq, AV.fn.injEq, List.cons.injEq, and_true, true_and, Prod.mk.injEq, Int.natCast_inj] using h
theorem c_take {E : Env} (h : E.prim 48 = some fun _ => p_take) {S : Store} {id : Nat} {s : Rdr} (hs : S[id]? = some (.cells (rdrL s))) (n : Nat) {K : AV → Store → Prop} {d : Dm K} : SpD E 48 [.ptr id 0, .int .i64 n] S K d = K (enc (takeP s n).1) (S.set id (.cells (rdrL ((takeP s n).2)))) :=
  callM h i_rdr i_take (s := s) (a := n) (args := [.int .i64 n]) hs (by simp only [rd0L, rd0, e_take, enc_rd0, Option.bind_some, Option.map_some]) trivial
def e_fail : Unit → List AV := fun _ => []
def k_fail : Rdr → Unit → Prop := fun s => fun _ => True
def r_fail : Rdr → Unit → AV × Rdr := fun s => fun _ => (AV.tup [], failP s)
noncomputable def p_fail : List AV → Store → Option (AV × Store) := primM rdrL e_fail (gdM k_fail r_fail)
theorem i_fail : Inj e_fail := fun _ _ _ => rfl
theorem c_fail {E : Env} (h : E.prim 52 = some fun _ => p_fail) {S : Store} {id : Nat} {s : Rdr} (hs : S[id]? = some (.cells (rdrL s)))  {K : AV → Store → Prop} {d : Dm K} : SpD E 52 [.ptr id 0] S K d = K (AV.tup []) (S.set id (.cells (rdrL (failP s)))) :=
  callM h i_rdr i_fail (s := s) (a := ()) (args := []) hs (by simp only [rd0L, rd0, e_fail, enc_rd0, Option.bind_some, Option.map_some]) trivial
def e_count : Nat → List AV := fun n => [.int .i64 n]
def k_count : Rdr → Nat → Prop := fun s => fun n => True
def r_count : Rdr → Nat → AV × Rdr := fun s => fun n => (.int .i64 (countP s n).1, (countP s n).2)
noncomputable def p_count : List AV → Store → Option (AV × Store) := primM rdrL e_count (gdM k_count r_count)
theorem i_count : Inj e_count := by
  intro n1 n2 h
  simpa only [e_count, enc_inj, rec_inj, AV.str.injEq, AV.int.injEq, AV.bool.injEq, AV.agg.injEq, AV.ptr.injEq, AV.fn.injEq, List.cons.injEq, and_true, true_and, Prod.mk.injEq, Int.natCast_inj] using h
theorem c_count {E : Env} (h : E.prim 51 = some fun _ => p_count) {S : Store} {id : Nat} {s : Rdr} (hs : S[id]? = some (.cells (rdrL s))) (n : Nat) {K : AV → Store → Prop} {d : Dm K} : SpD E 51 [.ptr id 0, .int .i64 n] S K d = K (.int .i64 (countP s n).1) (S.set id (.cells (rdrL ((countP s n).2)))) :=
  callM h i_rdr i_count (s := s) (a := n) (args := [.int .i64 n]) hs (by simp only [rd0L, rd0, e_count, enc_rd0, Option.bind_some, Option.map_some]) trivial
def e_number : Unit → List AV := fun _ => []
def k_number : Rdr → Unit → Prop := fun s => fun _ => True
def r_number : Rdr → Unit → AV × Rdr := fun s => fun _ => (.agg (valL (numberP s).1), (numberP s).2)
noncomputable def p_number : List AV → Store → Option (AV × Store) := primM rdrL e_number (gdM k_number r_number)
theorem i_number : Inj e_number := fun _ _ _ => rfl
theorem c_number {E : Env} (h : E.prim 49 = some fun _ => p_number) {S : Store} {id : Nat} {s : Rdr} (hs : S[id]? = some (.cells (rdrL s)))  {K : AV → Store → Prop} {d : Dm K} : SpD E 49 [.ptr id 0] S K d = K (.agg (valL (numberP s).1)) (S.set id (.cells (rdrL ((numberP s).2)))) :=
  callM h i_rdr i_number (s := s) (a := ()) (args := []) hs (by simp only [rd0L, rd0, e_number, enc_rd0, Option.bind_some, Option.map_some]) trivial
def e_decode : List UInt8 → List AV := fun b => [enc b]
def k_decode : List UInt8 → Prop := fun b => True
def r_decode : List UInt8 → AV := fun b => .tup [.agg (valL (decodeP b).1), .int .i64 (decodeP b).2]
noncomputable def p_decode : List AV → Store → Option (AV × Store) := primG e_decode (gd k_decode r_decode)
theorem i_decode : Inj e_decode := by
  intro b1 b2 h
  simpa only [e_decode, enc_inj, rec_inj, AV.str.injEq, AV.int.injEq, AV.bool.injEq, AV.agg.injEq, AV.ptr.injEq, AV.fn.injEq, List.cons.injEq, and_true, true_and, Prod.mk.injEq] using h
theorem c_decode {E : Env} (h : E.prim 26 = some fun _ => p_decode) (b : List UInt8) {S : Store} {K : AV → Store → Prop} {d : Dm K} : SpD E 26 [enc b] S K d = K (.tup [.agg (valL (decodeP b).1), .int .i64 (decodeP b).2]) S := by
  have := callG h i_decode (a := b) (S := S) (args := [enc b]) (K := K) (d := d) (by simp only [e_decode, rdSL_cons, rdSL_nil, rdS_int, rdS_bool, rdS_str, enc_rdS, rdS_fn0, rdS_csl0, rdS_rec, rdSL_rec, rdS_agg, rdS_tup, Option.bind_some, Option.map_some]) trivial
  simpa only [r_decode, topL_cons, topL_nil, top_int, top_bool, top_str, top_csl, enc_top, top_agg, top_rec, top_fn, List.nil_append, killL_nil] using this
theorem c_decode' {E : Env} (h : E.prim 26 = some fun _ => p_decode) {S : Store} {x0 : AV} {b : List UInt8} (h0 : rdS S x0 = some (enc b)) {K : AV → Store → Prop} {d : Dm K} : SpD E 26 [x0] S K d = K (.tup [.agg (valL (decodeP b).1), .int .i64 (decodeP b).2]) (killL (topIdsL [x0]) S) :=
  callG h i_decode (a := b) (by simp only [e_decode, rdSL, h0, Option.bind_some, Option.map_some]) trivial
def e_value : Nat → List AV := fun n => [.int .i64 n]
def k_value (dp : Nat) : Rdr → Nat → Prop := fun s => fun n => n < dp ∧ n ≤ 16
def r_value : Rdr → Nat → AV × Rdr := fun s => fun n => (.agg (valL (valueP n s).1), (valueP n s).2)
noncomputable def p_value (dp : Nat) : List AV → Store → Option (AV × Store) := primM rdrL e_value (gdM (k_value dp) r_value)
theorem i_value : Inj e_value := by
  intro n1 n2 h
  simpa only [e_value, enc_inj, rec_inj, AV.str.injEq, AV.int.injEq, AV.bool.injEq, AV.agg.injEq, AV.ptr.injEq, AV.fn.injEq, List.cons.injEq, and_true, true_and, Prod.mk.injEq, Int.natCast_inj] using h
theorem c_value {E : Env} {dp : Nat} (h : E.prim 40 = some fun _ => p_value dp) {S : Store} {id : Nat} {s : Rdr} (hs : S[id]? = some (.cells (rdrL s))) (n : Nat) (hk : n < dp ∧ n ≤ 16) {K : AV → Store → Prop} {d : Dm K} : SpD E 40 [.ptr id 0, .int .i64 n] S K d = K (.agg (valL (valueP n s).1)) (S.set id (.cells (rdrL ((valueP n s).2)))) :=
  callM h i_rdr i_value (s := s) (a := n) (args := [.int .i64 n]) hs (by simp only [rd0L, rd0, e_value, enc_rd0, Option.bind_some, Option.map_some]) hk

theorem add_ne {E : Env} {f g : Nat} {p : List AV → Store → Option (AV × Store)} (h : g ≠ f) : (E.add f p).prim g = E.prim g := if_neg h
theorem add_eq {E : Env} {f : Nat} {p : List AV → Store → Option (AV × Store)} : (E.add f p).prim f = some fun _ => p := if_pos rfl
mutual
theorem Val.ind {P : Val → Prop} (h : ∀ k n b l, (∀ w, w ∈ l → P w) → P (.mk k n b l)) : ∀ v, P v
  | .mk k n b l => h k n b l (Val.indL h l)
theorem Val.indL {P : Val → Prop} (h : ∀ k n b l, (∀ w, w ∈ l → P w) → P (.mk k n b l)) : ∀ l : List Val, ∀ w, w ∈ l → P w
  | [], w, hw => by cases hw
  | v :: l, w, hw => by
    cases hw with
    | head => exact Val.ind h v
    | tail _ hw => exact Val.indL h l w hw
end
theorem pureAL_mem : ∀ {l : List Val}, pureAL l = true → ∀ w, w ∈ l → pureA w = true
  | [], _, w, hw => by cases hw
  | v :: l, h, w, hw => by
    simp only [pureAL, Bool.and_eq_true] at h
    cases hw with
    | head => exact h.1
    | tail _ hw => exact pureAL_mem h.2 w hw
theorem pureAL_of : ∀ {l : List Val}, (∀ w, w ∈ l → pureA w = true) → pureAL l = true
  | [], _ => rfl
  | v :: l, h => by simp only [pureAL, h v List.mem_cons_self, pureAL_of fun w hw => h w (List.mem_cons_of_mem _ hw), Bool.and_self]
theorem bytesAL_append : ∀ (l m : List Val), bytesAL (l ++ m) = bytesAL l ++ bytesAL m
  | [], m => rfl
  | v :: l, m => by simp only [List.cons_append, bytesAL, bytesAL_append l m, List.append_assoc]
theorem bytesAL_len : ∀ {l : List Val} (w : Val), w ∈ l → (bytesA w).length ≤ (bytesAL l).length
  | [], w, hw => by cases hw
  | v :: l, w, hw => by
    simp only [bytesAL, List.length_append]
    cases hw with
    | head => omega
    | tail _ hw => have := bytesAL_len w hw; omega
theorem plain_len (n : Int) : (plainP n).length ≤ 8 := by
  have h : ∀ l : List UInt8, (l.dropWhile (· == 0)).length ≤ l.length := fun l => (List.dropWhile_sublist _).length_le
  refine Nat.le_trans (h _) ?_
  unfold putP lowP; simp only; split
  · simp only [List.length_reverse, leN_len]; omega
  · simp
theorem pure1_3 {v : Val} (h : pure1 v = true) (h1 : v.kind ≠ 1) (h2 : v.kind ≠ 2) : v.kind = 3 ∧ v.num = 0 ∧ v.bytes.length = 0 ∧ v.list.length ≤ 4096 := by
  unfold pure1 at h
  rw [if_neg h1, if_neg h2] at h
  split at h
  · rename_i h3; simp only [Bool.and_eq_true, decide_eq_true_eq] at h; exact ⟨h3, h⟩
  · cases h
theorem pure1_2 {v : Val} (h : pure1 v = true) (h2 : v.kind = 2) : v.num = 0 ∧ v.bytes.length ≤ 1048576 ∧ v.list.length = 0 := by
  unfold pure1 at h
  rw [if_neg (by omega), if_pos h2] at h
  simp only [Bool.and_eq_true, decide_eq_true_eq] at h; exact h
theorem pure1_1 {v : Val} (h : pure1 v = true) (h2 : v.kind = 1) : (0 ≤ v.num ∧ v.num ≤ 4611686018427387904) ∧ v.bytes.length = 0 ∧ v.list.length = 0 := by
  unfold pure1 at h
  rw [if_pos h2] at h
  simp only [Bool.and_eq_true, decide_eq_true_eq] at h; exact h
mutual
theorem meas_le : ∀ (v : Val) (room deep : Int), (measA v room deep).2 = true → 0 ≤ room ∧ 0 ≤ (measA v room deep).1 ∧ (measA v room deep).1 ≤ room + 1048580
  | .mk k n b l, room, deep, h => by
    unfold measA at h ⊢
    split at h
    · cases h
    · rename_i h0
      rw [if_neg h0]
      simp only [Bool.or_eq_true, Bool.not_eq_true', decide_eq_true_eq, not_or, Bool.not_eq_false] at h0
      obtain ⟨hp, hr, hd⟩ := h0
      split at h
      · rename_i hk
        rw [if_pos hk]
        have := plain_len n
        simp only; omega
      · rename_i hk
        rw [if_neg hk]
        split at h
        · rename_i hk2
          rw [if_pos hk2]
          have := (pure1_2 hp hk2).2.1
          simp only [Val.bytes] at this
          simp only; omega
        · rename_i hk2
          rw [if_neg hk2]
          split at h
          · cases h
          · rename_i hd0
            rw [if_neg hd0]
            have := measL_le l room (deep - 1) 3 (by omega) (by omega) h
            omega
theorem measL_le : ∀ (l : List Val) (room deep acc : Int), 0 ≤ acc → acc ≤ room + 1048580 → (measAL l room deep acc).2 = true → acc ≤ (measAL l room deep acc).1 ∧ (measAL l room deep acc).1 ≤ room + 1048580
  | [], room, deep, acc, h0, h1, h => ⟨Int.le_refl _, h1⟩
  | v :: l, room, deep, acc, h0, h1, h => by
    unfold measAL at h ⊢
    split at h
    · rename_i hv
      rw [if_pos hv]
      have := meas_le v (room - acc) deep hv
      have := measL_le l room deep (acc + (measA v (room - acc) deep).1) (by omega) (by omega) h
      omega
    · cases h
end
end Go.Proofs.Ytaajlbbooneiiaa.Avm
set_option linter.unusedVariables false
set_option linter.unusedSimpArgs false
set_option maxRecDepth 10000
namespace Go.Proofs.Ytaajlbbooneiiaa.Avm

theorem leN_get : ∀ (s n i : Nat) (h : i < (leN s n).length), (leN s n)[i] = UInt8.ofNat (n / 256 ^ i % 256)
  | 0, n, i, h => by simp [leN] at h
  | s + 1, n, 0, h => by simp [leN]
  | s + 1, n, i + 1, h => by
    simp only [leN, List.getElem_cons_succ]
    rw [leN_get s (n / 256) i (by simpa [leN] using h), Nat.div_div_eq_div_mul, Nat.pow_succ, Nat.mul_comm]
theorem shr8 (m j : Nat) (hj : j ≤ 8) : ((m : Int)).fdiv (2 ^ (min (((8 * j : Nat) : Int)).toNat 64)) = ((m / 256 ^ j : Nat) : Int) := by
  rw [Int.toNat_natCast, Nat.min_eq_left (by omega), Int.fdiv_eq_ediv_of_nonneg _ (by exact_mod_cast Nat.zero_le _)]
  rw [show (256 : Nat) = 2 ^ 8 from rfl, ← Nat.pow_mul]
  norm_cast
theorem b_shr8 {k' : IntKind} (k : IntKind) (m j : Nat) (hj : j ≤ 8) (hk : k.bits = 64) : abin .shr (.int k (m : Int)) (.int k' ((8 * j : Nat) : Int)) = some (.int k ((m / 256 ^ j : Nat) : Int)) := by
  rw [b_shr (by omega), hk, shr8 m j hj]
theorem le_step {j m i : Nat} (hi : i < j) : ((leN j m).take i ++ List.replicate (j - i) 0).set i (UInt8.ofNat (m / 256 ^ i % 256)) = (leN j m).take (i + 1) ++ List.replicate (j - (i + 1)) 0 := by
  have hl := leN_len j m
  rw [List.set_append_right _ _ (by simp; omega), List.take_succ_eq_append_getElem (by omega), leN_get j m i (by omega)]
  simp only [List.length_take, hl, Nat.min_eq_left (Nat.le_of_lt hi), Nat.sub_self, List.append_assoc]
  rw [show j - i = (j - (i + 1)) + 1 by omega, List.replicate_succ]; simp
theorem ok_low {E : Env} (hp : E.prim 58 = none) (hf : E.F 58 = some F58) : OkG E 58 e_low (gd k_low r_low) := by
  refine OkG.code hp hf (fun _ => rfl) fun ⟨n, k⟩ S _ => ?_
  by_cases hq : (1 ≤ k ∧ k ≤ 8 ∧ 0 ≤ n ∧ n ≤ 4611686018427387904 ∧ n.toNat < 256 ^ k.toNat)
  · obtain ⟨h1, h2, h3, h4, h5⟩ := id hq
    have hlow : lowP n k = (leN k.toNat n.toNat, 0) := if_pos hq
    obtain ⟨j, rfl⟩ : ∃ j : Nat, k = j := ⟨k.toNat, by omega⟩
    obtain ⟨m, rfl⟩ : ∃ m : Nat, n = m := ⟨n.toNat, by omega⟩
    simp only [Int.toNat_natCast] at h5 hlow
    have y1 : decide ((j : Int) < 1) = false := decide_eq_false (by omega)
    have y2 : decide ((8 : Int) < j) = false := decide_eq_false (by omega)
    have y3 : decide ((m : Int) < 0) = false := decide_eq_false (by omega)
    have y4 : decide ((4611686018427387904 : Int) < m) = false := decide_eq_false (by omega)
    have w1 : IntKind.i64.wrap (8 * (j : Int)) = ((8 * j : Nat) : Int) := by rw [wrap64 (by omega) (by omega)]; omega
    have w2 : IntKind.u64.wrap ((8 * j : Nat) : Int) = ((8 * j : Nat) : Int) := wrapu64 (by omega) (by omega)
    have b1 := b_shr8 (k' := .u64) .i64 m j (by omega) rfl
    have hz : m / 256 ^ j = 0 := Nat.div_eq_of_lt h5
    have hmk : mkslA S 1 1 [.int .u8 0] (.int .i64 (j : Int)) (.int .i64 (j : Int)) = some (.sl S.length 0 j 1, S ++ [.cells (cl ((leN j m).take 0 ++ List.replicate (j - 0) 0))]) := by
      simp only [mkslA, aop0, aop, ev_l]
      rw [if_pos (by refine ⟨?_, ?_, ?_, ?_⟩ <;> first | trivial | rfl | omega)]
      simp only [Int.toNat_natCast, List.take_zero, List.nil_append, Nat.sub_zero, cl, List.flatMap, List.map_replicate]; rfl
    rw [hz, Int.natCast_zero] at b1
    have fin1 : Conv S (S ++ [.cells (cl (leN j m))]) (.tup [.sl S.length 0 j 1, .int .i64 0]) S (.tup [enc (leN j m), .int .i64 0]) := by
      refine conv_pair (List.prefix_append _ _) (fun i h => by simp [topIds] at h; omega) ?_
      exact rd_own (rest := []) (by rw [get_new0, List.append_nil]; rfl) (leN_len j m).symm rfl
    cases y5 : decide ((j : Int) < 8)
    all_goals
      simp -dsimp only [go_sem, F58, e_low, r_low, hlow, y1, y2, y3, y4, y5, w1, w2, b1, hmk]
      refine Ex.range (n := j) (fun i g T => g 0 = .int .i64 (m : Int) ∧ g 6 = .sl S.length 0 j 1 ∧ T = S ++ [.cells (cl ((leN j m).take i ++ List.replicate (j - i) 0))]) (by decide) (by omega) rfl rfl ⟨rfl, rfl, rfl⟩ ?_ ?_
      · rintro i g T hi gi gn ⟨g0, g6, rfl⟩
        have w3 : IntKind.i64.wrap (8 * (i : Int)) = ((8 * i : Nat) : Int) := by rw [wrap64 (by omega) (by omega)]; omega
        have w4 : IntKind.u64.wrap ((8 * i : Nat) : Int) = ((8 * i : Nat) : Int) := wrapu64 (by omega) (by omega)
        have b2 := b_shr8 (k' := .u64) .i64 m i (by omega) rfl
        have hb : IntKind.u8.wrap ((m / 256 ^ i : Nat) : Int) = ((UInt8.ofNat (m / 256 ^ i % 256)).toNat : Int) := by
          rw [wrapu8, UInt8.toNat_ofNat']; omega
        have hlen : i < ((leN j m).take i ++ List.replicate (j - i) (0 : UInt8)).length := by simp [leN_len]; omega
        have hst : stO (S ++ [.cells (cl ((leN j m).take i ++ List.replicate (j - i) 0))]) S.length 1 (i * 1) (.int .u8 ((UInt8.ofNat (m / 256 ^ i % 256)).toNat : Int)) (.cells (cl ((leN j m).take i ++ List.replicate (j - i) 0)))
            = some (AV.undef, (S ++ [AObj.cells (cl ((leN j m).take i ++ List.replicate (j - i) 0))]).set S.length (.cells (cl ((leN j m).take (i + 1) ++ List.replicate (j - (i + 1)) 0)))) := by
          rw [← le_step hi]
          exact stO_cl1 (k := 0) (a := UInt8.ofNat (m / 256 ^ i % 256)) hlen rfl (by decide) rfl rfl
        rw [set_new0] at hst
        simp -dsimp only [go_sem, gi, gn, g0, g6, w3, w4, b2, hb, ia_slE .i64 hi, hst]
      · rintro g T gi ⟨g0, g6, rfl⟩
        have : (leN j m).take j = leN j m := List.take_of_length_le (by rw [leN_len]; omega)
        rw [this, Nat.sub_self, List.replicate_zero, List.append_nil]
        simp -dsimp only [go_sem, g0, g6, F58, r_low, hlow]
        exact fin1
  · have hlow : lowP n k = ([], 2) := if_neg hq
    have fin2 : Conv S S (.tup [.nilS, .int .i64 2]) S (.tup [enc ([] : List UInt8), .int .i64 2]) := conv_pair List.prefix_rfl (fun i h => by simp [topIds] at h) rfl
    cases y1 : decide (k < 1)
    rotate_left
    · simp -dsimp only [go_sem, F58, e_low, r_low, hlow, y1]
      exact fin2
    cases y2 : decide (8 < k)
    rotate_left
    · simp -dsimp only [go_sem, F58, e_low, r_low, hlow, y1, y2]
      exact fin2
    cases y3 : decide (n < 0)
    rotate_left
    · simp -dsimp only [go_sem, F58, e_low, r_low, hlow, y1, y2, y3]
      exact fin2
    cases y4 : decide (4611686018427387904 < n)
    rotate_left
    · simp -dsimp only [go_sem, F58, e_low, r_low, hlow, y1, y2, y3, y4]
      exact fin2
    simp only [decide_eq_false_iff_not] at y1 y2 y3 y4
    obtain ⟨j, rfl⟩ : ∃ j : Nat, k = j := ⟨k.toNat, by omega⟩
    obtain ⟨m, rfl⟩ : ∃ m : Nat, n = m := ⟨n.toNat, by omega⟩
    have h5 : ¬ m < 256 ^ j := fun h => hq ⟨by omega, by omega, by omega, by omega, by simpa using h⟩
    have hj : j < 8 := by
      refine Nat.lt_of_not_le fun h => h5 ?_
      have : j = 8 := by omega
      subst this
      omega
    have y5 : decide ((j : Int) < 8) = true := decide_eq_true (by omega)
    have y1 : decide ((j : Int) < 1) = false := decide_eq_false y1
    have y2 : decide ((8 : Int) < j) = false := decide_eq_false y2
    have y3 : decide ((m : Int) < 0) = false := decide_eq_false y3
    have y4 : decide ((4611686018427387904 : Int) < m) = false := decide_eq_false y4
    have w1 : IntKind.i64.wrap (8 * (j : Int)) = ((8 * j : Nat) : Int) := by rw [wrap64 (by omega) (by omega)]; omega
    have w2 : IntKind.u64.wrap ((8 * j : Nat) : Int) = ((8 * j : Nat) : Int) := wrapu64 (by omega) (by omega)
    have b1 := b_shr8 (k' := .u64) .i64 m j (by omega) rfl
    have hz : decide (((m / 256 ^ j : Nat) : Int) = 0) = false := decide_eq_false (by
      have := Nat.div_pos (Nat.not_lt.1 h5) (Nat.pow_pos (by decide : 0 < 256)); omega)
    simp -dsimp only [go_sem, F58, e_low, r_low, hlow, y1, y2, y3, y4, y5, w1, w2, b1, hz]
    exact fin2
end Go.Proofs.Ytaajlbbooneiiaa.Avm
