/- Calls that answer with a row of their own; rows of which it is asked whether they are nil. -/
import Derived.Test.YtmijfhepagobdaaA27
set_option linter.unusedVariables false
set_option linter.unusedSimpArgs false
set_option linter.unusedSectionVars false
namespace Go.Proofs.Ytmijfhepagobdaa.Avm

/-- a slice, known to be nil or known not to be -/
def nils (v v' : AV) : Prop := (v' = v ∧ v ≠ .csl [] 0) ∨ (v = .csl [] 0 ∧ (v' = .nilS ∨ v' = .nsl))
inductive NilsL : List AV → List AV → Prop
  | nil : NilsL [] []
  | cons {v v' : AV} {l l' : List AV} (h : nils v v') (k : NilsL l l') : NilsL (v :: l) (v' :: l')
theorem nils_V {w0 : World} {φ : Pc} {v : AV} {cv : Value} (h : V w0 φ v cv) : ∃ v', nils v v' ∧ V w0 φ v' cv := by
  by_cases e : v = .csl [] 0
  · subst e
    obtain ⟨a, c, cvs, rfl, _⟩ | ⟨_, _, rfl⟩ := h.csl_inv
    · exact ⟨.nsl, .inr ⟨rfl, .inr rfl⟩, .nsl⟩
    · exact ⟨.nilS, .inr ⟨rfl, .inl rfl⟩, .nilS⟩
  · exact ⟨v, .inl ⟨rfl, e⟩, h⟩
theorem nilsL_V {w0 : World} {φ : Pc} : ∀ {l : List AV} {cvs : List Value}, Vs w0 φ l cvs → ∃ l', NilsL l l' ∧ Vs w0 φ l' cvs
  | [], cvs, h => ⟨[], .nil, h⟩
  | v :: l, cvs, h => by
    obtain ⟨cv, cvs', rfl, h1, h2⟩ := h.cons_inv
    obtain ⟨v', k1, k2⟩ := nils_V h1
    obtain ⟨l', m1, m2⟩ := nilsL_V h2
    exact ⟨v' :: l', .cons k1 m1, .cons k2 m2⟩

noncomputable section
open Classical
variable {α : Type}
/-- what a call answers and leaves, by what its arguments read as -/
def primO (enc : α → List AV) (res : α → Store → Option (AV × Store)) (args : List AV) (S : Store) : Option (AV × Store) :=
  if h : ∃ a, rd0L args = some (enc a) then res h.choose S else none
end
section
variable {α : Type} {enc : α → List AV} {res : α → Store → Option (AV × Store)} {args : List AV} {S S' : Store} {a : α} {v : AV}
theorem primO_eq (hi : Inj enc) (h : rd0L args = some (enc a)) : primO enc res args S = res a S := by
  have he : ∃ a, rd0L args = some (enc a) := ⟨a, h⟩
  have : he.choose = a := hi _ _ (Option.some.inj (he.choose_spec.symm.trans h))
  unfold primO; rw [dif_pos he, this]
theorem primO_inv (h : primO enc res args S = some (v, S')) : ∃ a, rd0L args = some (enc a) ∧ res a S = some (v, S') := by
  unfold primO at h
  split at h
  · rename_i he; exact ⟨_, he.choose_spec, h⟩
  · cases h
end
def OkO {α : Type} (E : Env) (f : Nat) (enc : α → List AV) (res : α → Store → Option (AV × Store)) : Prop := ∀ a v S S', res a S = some (v, S') → ∃ v1 S1, Is E f (enc a) S v1 S1 ∧ Conv S S1 v1 S' v
def OkN {α : Type} (E : Env) (f : Nat) (enc : α → List AV) (res : α → Store → Option (AV × Store)) : Prop := ∀ a v S S', res a S = some (v, S') → ∀ args', NilsL (enc a) args' → ∃ v1 S1, Is E f args' S v1 S1 ∧ Conv S S1 v1 S' v

theorem AllOK.addN {P : Program} {E : Env} (hmix : P.follows .mixedOrders = true) (hE : AllOK P E) {α : Type} {enc : α → List AV} {res : α → Store → Option (AV × Store)} {f : Nat} (h : OkN E f enc res) : AllOK P (E.add f (primO enc res)) := fun w0 =>
  { fn := (hE w0).fn
    prim := fun g q hq cf hcf args S v S' hp φ w vs hr hv => by
      simp only [Env.add] at hq
      split at hq
      · rename_i hg; subst hg; cases hq
        obtain ⟨a, h1, h2⟩ := primO_inv hp
        have hv0 : Vs w0 φ (enc a) vs := rd0L_V (fun _ _ h => h) h1 hv
        obtain ⟨args', n1, n2⟩ := nilsL_V hv0
        obtain ⟨v1, S1, ⟨N, hN⟩, hc⟩ := h a v S S' h2 args' n1
        rcases run_ok hmix (hE w0) N g args' _ v1 S1 (hN N (Nat.le_refl _)) _ w vs hr n2 with k | ⟨f, as, w1, k1, k2⟩
        · obtain ⟨φ', cv, w', k1, k2, k3, k4⟩ := k
          obtain ⟨φ2, m1, m2, m3⟩ := hc.rel hr k2 k3 k4
          exact .inl ⟨φ2, cv, w', k1, m1, m2, m3⟩
        · refine .inr ⟨f, as, w1, k1, k2.mono fun e w' hb => ?_⟩
          obtain ⟨φ', cv, e1, e2, e3, e4⟩ := hb
          obtain ⟨φ2, m1, m2, m3⟩ := hc.rel hr e2 e3 e4
          exact ⟨φ2, cv, e1, m1, m2, m3⟩
      · exact (hE w0).prim g q hq cf hcf args S v S' hp φ w vs hr hv }
theorem AllOK.addO {P : Program} {E : Env} (hmix : P.follows .mixedOrders = true) (hE : AllOK P E) {α : Type} {enc : α → List AV} {res : α → Store → Option (AV × Store)} {f : Nat} (h : OkO E f enc res) : AllOK P (E.add f (primO enc res)) := fun w0 =>
  { fn := (hE w0).fn
    prim := fun g q hq cf hcf args S v S' hp φ w vs hr hv => by
      simp only [Env.add] at hq
      split at hq
      · rename_i hg; subst hg; cases hq
        obtain ⟨a, h1, h2⟩ := primO_inv hp
        have hv0 : Vs w0 φ (enc a) vs := rd0L_V (fun _ _ h => h) h1 hv
        obtain ⟨v1, S1, ⟨N, hN⟩, hc⟩ := h a v S S' h2
        rcases run_ok hmix (hE w0) N g (enc a) _ v1 S1 (hN N (Nat.le_refl _)) _ w vs hr hv0 with k | ⟨f, as, w1, k1, k2⟩
        · obtain ⟨φ', cv, w', k1, k2, k3, k4⟩ := k
          obtain ⟨φ2, m1, m2, m3⟩ := hc.rel hr k2 k3 k4
          exact .inl ⟨φ2, cv, w', k1, m1, m2, m3⟩
        · refine .inr ⟨f, as, w1, k1, k2.mono fun e w' hb => ?_⟩
          obtain ⟨φ', cv, e1, e2, e3, e4⟩ := hb
          obtain ⟨φ2, m1, m2, m3⟩ := hc.rel hr e2 e3 e4
          exact ⟨φ2, cv, e1, m1, m2, m3⟩
      · exact (hE w0).prim g q hq cf hcf args S v S' hp φ w vs hr hv }
theorem callO {α : Type} {E : Env} {f : Nat} {enc : α → List AV} {res : α → Store → Option (AV × Store)} {args : List AV} {S S' : Store} {a : α} {v : AV} {K : AV → Store → Prop} {d : Dm K}
    (h : E.prim f = some fun _ => primO enc res) (hi : Inj enc) (hr : rd0L args = some (enc a)) (hs : res a S = some (v, S')) : SpD E f args S K d = K v S' :=
  Is.spD (Is.prim h ((primO_eq hi hr).trans hs)) K d

/-- one object gets a name -/
def rhoO (S : Store) (id : Nat) (i : Nat) : Option Nat := if i < S.length then some i else if i = id then some S.length else none
theorem Conv.ownV {S T : Store} {id : Nat} {cs : List AV} {v v' : AV} (hp : S <+: T) (hi : S.length ≤ id) (hT : T[id]? = some (.cells cs)) (hc : PureL cs) (hv : Cv T (rhoO S id) v v') : Conv S T v (S ++ [.cells cs]) v' := by
  obtain ⟨U, rfl⟩ := hp
  have hlt := (List.getElem?_eq_some_iff.1 hT).1
  refine ⟨rhoO S id, fun i' => if i' < S.length then i' else id, fun i h => if_pos h, fun i i' h => ?_, fun i' h => ?_, fun i' x' h => ?_, hv⟩
  · unfold rhoO at h
    split at h
    · rename_i hl; cases h; simp; exact ⟨by omega, fun h => by omega⟩
    · split at h
      · rename_i e; cases h; simp [e]
      · cases h
  · simp only [List.length_append, List.length_singleton] at h
    by_cases hl : i' < S.length
    · simp only [hl, if_true]; exact ⟨by simp; omega, if_pos hl⟩
    · have : i' = S.length := by omega
      subst this
      simp only [hl, if_false]
      exact ⟨hlt, by unfold rhoO; rw [if_neg (by omega), if_pos rfl]⟩
  · by_cases hl : i' < S.length
    · rw [List.getElem?_append_left hl] at h
      exact .inl ⟨hl, h, by rw [List.getElem?_append_left hl]; exact h⟩
    · have : i' = S.length := by have := (List.getElem?_eq_some_iff.1 h).1; simp at this; omega
      subst this
      simp at h; subst h
      refine .inr ⟨.cells cs, by simp only [hl, if_false]; exact hT, ?_⟩
      obtain ⟨q1, q2⟩ := rd0L_Cv (S ++ U) (rhoO S id) cs cs hc
      exact .cells q1 q2
theorem rhoO_id (S : Store) {id : Nat} (h : S.length ≤ id) : rhoO S id id = some S.length := by unfold rhoO; rw [if_neg (by omega), if_pos rfl]
theorem Conv.own {S T : Store} {id n sz : Nat} {cs : List AV} (hp : S <+: T) (hi : S.length ≤ id) (hT : T[id]? = some (.cells cs)) (hc : PureL cs) : Conv S T (.sl id 0 n sz) (S ++ [.cells cs]) (.sl S.length 0 n sz) :=
  Conv.ownV hp hi hT hc (.sl (rhoO_id S hi))

/-! ### slices.Clone -/
def cloneF (sz bytes : Nat) : AFunc := ⟨1, (.seq (.region [⟨(some 2), (.mv (.k .nilS)), none⟩] []) (.seq (.seq (.region [⟨none, (.mv (.v 0)), none⟩, ⟨(some 4), (.eqn false 1 (.l 0) (.k .nilS)), none⟩] []) (.cond (.v 4) (.seq (.region [⟨(some 2), (.mv (.k .nilS)), none⟩] []) .ret) .skip)) (.seq (.region [⟨none, (.lit sz 0 [] []), none⟩, ⟨none, (.mv (.v 0)), none⟩, ⟨none, (.append sz bytes (.l 0) (.l 1)), none⟩, ⟨(some 2), (.mv (.l 2)), none⟩] []) .ret))), [(.tmp 2)]⟩
/-- a list as a row of its own, at the store's end -/
noncomputable def ownRow {α : Type} [Rec α] (m : Nat) (l : List α) (S : Store) : Option (AV × Store) := if l.length ≤ m then some (if l.length = 0 then (.csl [] 0, S) else (.sl S.length 0 l.length (Rec.sz α), S ++ [.cells (cl l)])) else none

theorem ok_cloneF {α : Type} [Rec α] {E : Env} {f sz bytes m : Nat} (hp : E.prim f = none) (hf : E.F f = some (cloneF sz bytes)) (hs : sz = Rec.sz α) (hb : m * bytes ≤ 140737488355328) :
    OkN E f (fun l : List α => [enc l]) (ownRow m) := by
  subst hs
  intro l v S S' h args' hn
  unfold ownRow at h
  split at h
  rotate_left
  · cases h
  rename_i hlm
  obtain ⟨x, rfl, hx⟩ : ∃ x, args' = [x] ∧ nils (enc l) x := by cases hn with | cons hn hn2 => cases hn2; exact ⟨_, rfl, hn⟩
  have hlb : l.length * bytes ≤ 140737488355328 := Nat.le_trans (Nat.mul_le_mul_right _ hlm) hb
  clear hn
  unfold nils at hx
  rcases hx with ⟨rfl, hne⟩ | ⟨he, rfl | rfl⟩
  · have hl : l.length ≠ 0 := fun e => hne (by
      have : l = [] := List.eq_nil_of_length_eq_zero e
      subst this; rfl)
    rw [if_neg hl] at h; cases h
    have hisn : eqnA false 1 (enc l) .nilS = some (.bool false) := by rw [eqnA_eq false 1 _ _ false (by simp [enc, isNil, hl]) rfl]; rfl
    have key : Sp E f [enc l] S fun v T => v = .sl (S.length + 1) 0 l.length (Rec.sz α) ∧ T = S ++ [.dead, .cells (cl l)] := by
      refine Sp.intro hp hf rfl ?_
      simp -dsimp only [go_sem, cloneF, hisn]
      have happ : appA (S ++ [.cells []]) (Rec.sz α) bytes (.sl S.length 0 0 (Rec.sz α)) (enc l) = some (.sl (S.length + 1) 0 l.length (Rec.sz α), S ++ [.dead, .cells (cl l)]) := by
        rw [appA_eq, el_enc l rfl, Option.bind_some]
        have hpos := @Rec.pos α _
        have : ¬ (l.length * Rec.sz α ≤ 0) := by
          have := Nat.mul_pos (Nat.pos_of_ne_zero hl) hpos; omega
        have this' : ¬ l.length * Rec.sz α = 0 := by omega
        simp only [get_new0, set_new0, hlb, List.getElem?_cons_zero, if_true, Nat.zero_add, List.length_nil, Nat.zero_mul, this, if_false, and_self, List.drop_nil, List.nil_append, List.length_append, List.length_set, List.set_cons_zero, List.length_singleton, List.append_assoc, List.cons_append]
      have hz : litA S (Rec.sz α) 0 [] (some []) = some (.sl S.length 0 0 (Rec.sz α), S ++ [.cells []]) := litA_eq _ _ _ _ _ (by simp)
      simp -dsimp only [go_sem, cloneF, hz, happ]
    obtain ⟨v, T, ⟨rfl, rfl⟩, hi⟩ := key
    refine ⟨_, _, hi, Conv.own (cs := cl l) (List.prefix_append _ _) (by omega) ?_ (cl_pure l)⟩
    rw [get_new]; rfl
  · have hl : l.length = 0 := by have := congrArg (fun | AV.csl _ n => n | _ => 0) he; simpa [enc] using this
    rw [if_pos hl] at h; cases h
    have hisn : eqnA false 1 .nilS .nilS = some (.bool true) := rfl
    have key : Sp E f [.nilS] S fun v T => v = .nilS ∧ T = S := by
      refine Sp.intro hp hf rfl ?_
      simp -dsimp only [go_sem, cloneF, hisn]
    obtain ⟨v, T, ⟨rfl, rfl⟩, hi⟩ := key
    exact ⟨_, _, hi, Conv.good List.prefix_rfl (fun i h => by simp [topIds] at h) rfl⟩
  · have hl : l.length = 0 := by have := congrArg (fun | AV.csl _ n => n | _ => 0) he; simpa [enc] using this
    rw [if_pos hl] at h; cases h
    have hisn : eqnA false 1 .nsl .nilS = some (.bool false) := rfl
    have key : Sp E f [.nsl] S fun v T => v = .sl S.length 0 0 (Rec.sz α) ∧ T = S ++ [.cells []] := by
      refine Sp.intro hp hf rfl ?_
      simp -dsimp only [go_sem, cloneF, hisn]
      have hz : litA S (Rec.sz α) 0 [] (some []) = some (.sl S.length 0 0 (Rec.sz α), S ++ [.cells []]) := litA_eq _ _ _ _ _ (by simp)
      have happ : appA (S ++ [.cells []]) (Rec.sz α) bytes (.sl S.length 0 0 (Rec.sz α)) .nsl = some (.sl S.length 0 0 (Rec.sz α), S ++ [.cells []]) := by
        rw [appA_eq, show elems (S ++ [.cells []]) (Rec.sz α) .nsl = some ([], 0) from rfl]
        simp [get_new0, set_new0]
      simp -dsimp only [go_sem, cloneF, hz, happ]
    obtain ⟨v, T, ⟨rfl, rfl⟩, hi⟩ := key
    refine ⟨_, _, hi, Conv.good (List.prefix_append _ _) (fun i h => by simp [topIds] at h; omega) ?_⟩
    simp [rdS, get_new0, rd0L]

/-- an own row, and what lies behind it, reads as its list -/
theorem rd_own {α : Type} [Rec α] {T : Store} {id n sz : Nat} {l : List α} {rest : List AV} (h : T[id]? = some (.cells (cl l ++ rest))) (hn : n = l.length) (hs : sz = Rec.sz α) : rdS T (.sl id 0 n sz) = some (enc l) := by
  subst hn; subst hs
  simp only [rdS, h, Nat.zero_add]
  have hl := cl_len l
  rw [if_pos (by rw [List.length_append]; omega), List.drop_zero, List.take_append_of_le_length (by omega), List.take_of_length_le (by omega), show rd0L (cl l) = some (cl l) from cl_pure l]; rfl
theorem conv_pair {S T : Store} {x v : AV} {k : IntKind} {c : Int} (hp : S <+: T) (hi : ∀ i, i ∈ topIds x → S.length ≤ i) (h : rdS T x = some v) : Conv S T (.tup [x, .int k c]) S (.tup [v, .int k c]) :=
  Conv.good hp (fun i hm => by simp [topIds, topIdsL] at hm; exact hi i hm) (by simp [rdS, rdSL, h, rd0])
theorem inj_one {α : Type} [Rec α] : Inj (fun l : List α => [enc l]) := fun a b h => by simpa only [List.cons.injEq, enc_inj, and_true] using h
theorem call_clone {α : Type} [Rec α] {E : Env} {f m : Nat} {S : Store} {K : AV → Store → Prop} {d : Dm K} (h : E.prim f = some fun _ => primO (fun l : List α => [enc l]) (ownRow m)) (l : List α) (hm : l.length ≤ m) (hl : l.length ≠ 0) :
    SpD E f [enc l] S K d = K (.sl S.length 0 l.length (Rec.sz α)) (S ++ [.cells (cl l)]) :=
  callO h inj_one (a := l) (by simp only [rd0L, enc_rd0, Option.bind_some, Option.map_some]) (by unfold ownRow; rw [if_pos hm, if_neg hl])
theorem call_clone0 {α : Type} [Rec α] {E : Env} {f m : Nat} {S : Store} {K : AV → Store → Prop} {d : Dm K} (h : E.prim f = some fun _ => primO (fun l : List α => [enc l]) (ownRow m)) :
    SpD E f [enc ([] : List α)] S K d = K (.csl [] 0) S :=
  callO h inj_one (a := []) (by simp only [rd0L, enc_rd0, Option.bind_some, Option.map_some]) (by unfold ownRow; rw [if_pos (by simp)]; rfl)

end Go.Proofs.Ytmijfhepagobdaa.Avm
