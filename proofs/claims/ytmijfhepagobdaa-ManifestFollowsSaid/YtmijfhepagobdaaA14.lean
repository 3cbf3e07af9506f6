/- Runs of a region, instruction by instruction; which store an instruction may meet. -/
import Derived.Test.YtmijfhepagobdaaA13
set_option linter.unusedVariables false
set_option linter.unusedSimpArgs false
set_option linter.unusedSectionVars false
namespace Go.Proofs.Ytmijfhepagobdaa.Avm
open Go.RowKit

structure St where
  g : Frame
  S : Store
  L : List AV

def Stp (cf : CallF) (i : AIns) (s t : St) : Prop :=
  ∃ v, t.L = s.L ++ [v] ∧ t.g = (match i.dst with | some d => upd s.g d v | none => s.g) ∧
    ((wantA i s.L = some true ∧ aop cf s.S (ev s.g s.L) i.op = some (v, t.S)) ∨ (wantA i s.L = some false ∧ v = .undef ∧ t.S = s.S))

section
variable {cf : CallF}
theorem ains_cons {g : Frame} {S : Store} {L : List AV} {i : AIns} {rest : List AIns} {r : Frame × Store × List AV} (h : ains cf g S L (i :: rest) = some r) :
    ∃ t, Stp cf i ⟨g, S, L⟩ t ∧ ains cf t.g t.S t.L rest = some r := by
  simp only [ains] at h
  split at h
  · rename_i hg
    obtain ⟨⟨v, S'⟩, h1, h2⟩ := Option.bind_eq_some_iff.1 h
    exact ⟨⟨_, S', L ++ [v]⟩, ⟨v, rfl, rfl, .inl ⟨by simp [wantA, hg], h1⟩⟩, h2⟩
  · rename_i j b hg
    split at h
    · rename_i t ht
      split at h
      · rename_i htb
        obtain ⟨⟨v, S'⟩, h1, h2⟩ := Option.bind_eq_some_iff.1 h
        exact ⟨⟨_, S', L ++ [v]⟩, ⟨v, rfl, rfl, .inl ⟨by simp only [wantA, hg, ht]; simp [htb], h1⟩⟩, h2⟩
      · rename_i htb
        exact ⟨⟨_, S, L ++ [.undef]⟩, ⟨.undef, rfl, rfl, .inr ⟨by simp only [wantA, hg, ht]; simp [htb], rfl, rfl⟩⟩, h⟩
    · rename_i vs ht
      exact ⟨⟨_, S, L ++ [.undef]⟩, ⟨.undef, rfl, rfl, .inr ⟨by simp only [wantA, hg, ht], rfl, rfl⟩⟩, h⟩
    · cases h

theorem stp_ains {g : Frame} {S : Store} {L : List AV} {i : AIns} {rest : List AIns} {t : St} (h : Stp cf i ⟨g, S, L⟩ t) : ains cf g S L (i :: rest) = ains cf t.g t.S t.L rest := by
  obtain ⟨v, h1, h2, h3⟩ := h
  obtain ⟨tg, tS, tL⟩ := t
  simp only at h1 h2 h3; subst h1 h2
  simp only [ains]
  cases hg : i.guard with
  | none =>
    simp only [wantA, hg] at h3
    rcases h3 with ⟨_, ha⟩ | ⟨hw, _⟩
    · simp only [ha, Option.bind_some]; rfl
    · cases hw
  | some p =>
    obtain ⟨j, b⟩ := p
    simp only [wantA, hg] at h3
    simp only
    generalize L.getD j AV.undef = q at h3
    cases q with
    | bool t =>
      simp only [Option.some.injEq] at h3 ⊢
      rcases h3 with ⟨hw, ha⟩ | ⟨hw, rfl, rfl⟩
      · rw [if_pos (of_decide_eq_true hw), ha]; rfl
      · rw [if_neg (of_decide_eq_false hw)]; rfl
    | tup vs =>
      rcases h3 with ⟨hw, _⟩ | ⟨hw, rfl, rfl⟩
      · cases hw
      · rfl
    | _ => rcases h3 with ⟨hw, _⟩ | ⟨hw, _⟩ <;> cases hw

/-- the states that a run goes through -/
theorem trace : ∀ (ins : List AIns) (g : Frame) (S : Store) (L : List AV) (r : Frame × Store × List AV), ains cf g S L ins = some r →
    ∃ st : Nat → St, st 0 = ⟨g, S, L⟩ ∧ (∀ k i, ins[k]? = some i → Stp cf i (st k) (st (k + 1))) ∧ r = ((st ins.length).g, (st ins.length).S, (st ins.length).L) ∧
      ∀ k, k ≤ ins.length → ains cf g S L (ins.take k) = some ((st k).g, (st k).S, (st k).L)
  | [], g, S, L, r, h => ⟨fun _ => ⟨g, S, L⟩, rfl, fun k i hi => by simp at hi, by simpa [ains] using h.symm, fun k hk => by simp at hk; subst hk; rfl⟩
  | i :: ins, g, S, L, r, h => by
    obtain ⟨t, h1, h2⟩ := ains_cons h
    obtain ⟨st, q1, q2, q3, q4⟩ := trace ins t.g t.S t.L r h2
    have q1' : st 0 = t := q1
    refine ⟨fun k => match k with | 0 => ⟨g, S, L⟩ | k + 1 => st k, rfl, fun k j hj => ?_, q3, fun k hk => ?_⟩
    · cases k with
      | zero => simp at hj; subst hj; simp only; rw [q1']; exact h1
      | succ k => exact q2 k j (by simpa using hj)
    · cases k with
      | zero => rfl
      | succ k =>
        rw [List.take_succ_cons, stp_ains h1]
        exact q4 k (by simpa using hk)

theorem aop_same {e : AX → AV} {op : AOp} (hne : isEvent op = false) (hnr : isRead op = false) (S T : Store) : aop cf T e op = (aop cf S e op).map fun p => (p.1, T) := by
  cases op <;> simp only [isEvent, isRead, Bool.true_eq_false, reduceCtorEq] at hne hnr <;> simp only [aop]
  all_goals try simp only [Option.map_map, Option.map_some, Function.comp_def, Option.map_none]
  case slice sz x lo hi mx =>
    split
    · cases optInt e 0 lo <;> simp only [Option.bind_none, Option.bind_some, Option.map_none]
      cases optInt e 0 hi <;> simp only [Option.bind_none, Option.bind_some, Option.map_none]
      cases optInt e 0 mx <;> simp only [Option.bind_none, Option.bind_some, Option.map_none]
      split <;> rfl
    · cases optInt e 0 lo <;> simp only [Option.bind_none, Option.bind_some, Option.map_none]
      cases optInt e 0 hi <;> simp only [Option.bind_none, Option.bind_some, Option.map_none]
      cases optInt e 0 mx <;> simp only [Option.bind_none, Option.bind_some, Option.map_none]
      split <;> rfl
    · cases optInt e 0 lo <;> simp only [Option.bind_none, Option.bind_some, Option.map_none]
      cases optInt e 0 hi <;> simp only [Option.bind_none, Option.bind_some, Option.map_none]
      cases optInt e 0 mx <;> simp only [Option.bind_none, Option.bind_some, Option.map_none]
      split <;> rfl
    · rename_i n _
      cases optInt e 0 lo <;> simp only [Option.bind_none, Option.bind_some, Option.map_none]
      cases optInt e n hi <;> simp only [Option.bind_none, Option.bind_some, Option.map_none]
      cases optInt e n mx <;> simp only [Option.bind_none, Option.bind_some, Option.map_none]
      split <;> rfl
    · rename_i n _ _
      cases optInt e 0 lo <;> simp only [Option.bind_none, Option.bind_some, Option.map_none]
      cases optInt e n hi <;> simp only [Option.bind_none, Option.bind_some, Option.map_none]
      cases optInt e n mx <;> simp only [Option.bind_none, Option.bind_some, Option.map_none]
      split <;> rfl
    · rename_i n c _ _
      cases optInt e 0 lo <;> simp only [Option.bind_none, Option.bind_some, Option.map_none]
      cases optInt e n hi <;> simp only [Option.bind_none, Option.bind_some, Option.map_none]
      cases optInt e c mx <;> simp only [Option.bind_none, Option.bind_some, Option.map_none]
      split <;> rfl
    · rfl
  case sslice x lo hi =>
    split
    · rename_i s _
      cases optInt e 0 lo <;> simp only [Option.bind_none, Option.bind_some, Option.map_none]
      cases optInt e s.length hi <;> simp only [Option.bind_none, Option.bind_some, Option.map_none]
      split <;> rfl
    · rfl
  all_goals
    repeat' first
      | rfl
      | (simp only [Option.map_map, Option.map_some, Function.comp_def, Option.map_none]; done)
      | split

theorem aop_pure {S S' : Store} {e : AX → AV} {op : AOp} {v : AV} (hne : isEvent op = false) (hnr : isRead op = false) (h : aop cf S e op = some (v, S')) (T : Store) : aop cf T e op = some (v, T) := by
  rw [aop_same hne hnr S T, h]; rfl

theorem aop_keeps {S S' : Store} {e : AX → AV} {op : AOp} {v : AV} (hne : isEvent op = false) (h : aop cf S e op = some (v, S')) : S' = S := by
  cases hnr : isRead op with
  | false =>
    rw [aop_same hne hnr S S] at h
    obtain ⟨p, _, hp⟩ := Option.map_eq_some_iff.1 h
    cases hp; rfl
  | true =>
    cases op <;> simp only [isRead, Bool.true_eq_false, reduceCtorEq] at hnr <;> simp only [aop] at h
    · obtain ⟨_, _, hp⟩ := Option.map_eq_some_iff.1 h; cases hp; rfl
    · obtain ⟨_, _, h⟩ := Option.bind_eq_some_iff.1 h
      obtain ⟨_, _, hp⟩ := Option.map_eq_some_iff.1 h; cases hp; rfl
    · split at h
      · split at h
        · split at h
          · cases h; rfl
          · cases h
        · cases h
      · cases h
    · split at h
      · split at h
        · cases h; rfl
        · cases h
      · split at h
        · split at h
          · obtain ⟨r, _, hh⟩ := Option.map_eq_some_iff.1 h
            cases r <;> (cases hh; rfl)
          · cases h
        · cases h
      · cases h
    · split at h
      · cases h; rfl
      · split at h
        · cases h; rfl
        · cases h
      · cases h
end

/-- the states of a whole run -/
structure Tr (cf : CallF) (g : Frame) (S : Store) (ins : List AIns) (st : Nat → St) : Prop where
  zero : st 0 = ⟨g, S, []⟩
  step : ∀ k i, ins[k]? = some i → Stp cf i (st k) (st (k + 1))
  at' : ∀ k, k ≤ ins.length → storeAt cf g S ins k = some ((st k).g, (st k).S, (st k).L)

section
variable {cf : CallF} {g : Frame} {S : Store} {ins : List AIns} {st : Nat → St} (h : Tr cf g S ins st)
include h
theorem Tr.stp {k : Nat} (hk : k < ins.length) : ∃ i, ins[k]? = some i ∧ Stp cf i (st k) (st (k + 1)) := ⟨ins[k], List.getElem?_eq_getElem hk, h.step k _ (List.getElem?_eq_getElem hk)⟩
theorem Tr.len : ∀ k, k ≤ ins.length → (st k).L.length = k
  | 0, _ => by rw [h.zero]; rfl
  | k + 1, hk => by
    obtain ⟨i, _, v, h1, _⟩ := h.stp (show k < ins.length by omega)
    rw [h1, List.length_append, Tr.len k (by omega)]; rfl
theorem Tr.old {m k i : Nat} (hkm : k ≤ m) (hm : m ≤ ins.length) (hi : i < k) : (st m).L[i]? = (st k).L[i]? := by
  induction m with
  | zero => omega
  | succ m ih =>
    by_cases e : k = m + 1
    · rw [e]
    · obtain ⟨i', _, v, h1, _⟩ := h.stp (show m < ins.length by omega)
      rw [h1, List.getElem?_append_left (by rw [h.len m (by omega)]; omega)]
      exact ih (by omega) (by omega)
/-- what instruction j gave -/
theorem Tr.val {j : Nat} (hj : j < ins.length) : ∃ i v, ins[j]? = some i ∧ (st (j + 1)).L = (st j).L ++ [v] ∧ (∀ m, j < m → m ≤ ins.length → (st m).L[j]? = some v) ∧
    (st (j + 1)).g = (match i.dst with | some d => upd (st j).g d v | none => (st j).g) ∧
    ((wantA i (st j).L = some true ∧ aop cf (st j).S (ev (st j).g (st j).L) i.op = some (v, (st (j + 1)).S)) ∨ (wantA i (st j).L = some false ∧ v = .undef ∧ (st (j + 1)).S = (st j).S)) := by
  obtain ⟨i, hi, v, h1, h2, h3⟩ := h.stp hj
  refine ⟨i, v, hi, h1, fun m hm hml => ?_, h2, h3⟩
  rw [h.old (k := j + 1) (by omega) hml (by omega), h1]
  have := h.len j (by omega)
  rw [List.getElem?_append_right (by omega), this]; simp
theorem Tr.same {a b : Nat} (hab : a ≤ b) (hb : b ≤ ins.length) (hn : ∀ j i, a ≤ j → j < b → ins[j]? = some i → isEvent i.op = false) : (st b).S = (st a).S := by
  induction b with
  | zero => have : a = 0 := by omega
            subst this; rfl
  | succ b ih =>
    by_cases e : a = b + 1
    · subst e; rfl
    · rw [← ih (by omega) (by omega) fun j i h1 h2 => hn j i h1 (by omega)]
      obtain ⟨i, v, hi, _, _, _, h3⟩ := h.val (show b < ins.length by omega)
      rcases h3 with ⟨_, ha⟩ | ⟨_, _, e⟩
      · exact aop_keeps (hn b i (by omega) (by omega) hi) ha
      · exact e
theorem Tr.slot_old {t : Nat} : ∀ k, k ≤ ins.length → (∀ i o, i < k → ins[i]? = some o → o.dst ≠ some t) → (st k).g t = g t
  | 0, _, _ => by rw [h.zero]
  | k + 1, hk, hn => by
    obtain ⟨i, v, hi, _, _, h2, _⟩ := h.val (show k < ins.length by omega)
    rw [h2, ← Tr.slot_old k (by omega) fun j o hj => hn j o (by omega)]
    cases hd : i.dst with
    | some d =>
      have : t ≠ d := fun e => hn k i (by omega) hi (by rw [hd, e])
      simp only [upd_apply, if_neg this]
    | none => rfl
theorem Tr.slot_new {t j : Nat} {o : AIns} {v : AV} (hj : ins[j]? = some o) (hd : o.dst = some t) (hv : (st (j + 1)).L = (st j).L ++ [v]) : ∀ k, j < k → k ≤ ins.length → (∀ i o', j < i → i < k → ins[i]? = some o' → o'.dst ≠ some t) → (st k).g t = v
  | 0, h0, _, _ => by omega
  | k + 1, hjk, hk, hn => by
    obtain ⟨i, v', hi, hv', _, h2, _⟩ := h.val (show k < ins.length by omega)
    rw [h2]
    by_cases e : j = k
    · subst e
      rw [hi] at hj; cases hj
      rw [hd]; simp only [upd_apply, if_true]
      rw [hv'] at hv
      simpa using hv
    · rw [← Tr.slot_new hj hd hv k (by omega) (by omega) fun i o' a b => hn i o' a (by omega)]
      cases hd' : i.dst with
      | some d =>
        have : t ≠ d := fun e' => hn k i (by omega) (by omega) hi (by rw [hd', e'])
        simp only [upd_apply, if_neg this]
      | none => rfl
end

theorem floats_mem {cf : CallF} {g : Frame} {S : Store} {ins : List AIns} {st : Nat → St} (h : Tr cf g S ins st) : ∀ {fl : List (Nat × Nat)}, floats cf g S ins fl = true → ∀ {i j : Nat}, (i, j) ∈ fl → i < ins.length → j < ins.length →
    ∀ {o : AIns} {v : AV}, ins[i]? = some o → wantA o (st i).L = some true → (st (i + 1)).L = (st i).L ++ [v] → ∃ T', aop cf (st (if i < j then j + 1 else j)).S (ev (st i).g (st i).L) o.op = some (v, T')
  | [], hf, i, j, hm, hi, hj, o, v, ho, hw, hv => by simp at hm
  | (i', j') :: fl, hf, i, j, hm, hi, hj, o, v, ho, hw, hv => by
    simp only [floats, Bool.and_eq_true] at hf
    rcases List.mem_cons.1 hm with e | hm
    · simp only [Prod.mk.injEq] at e
      obtain ⟨e1, e2⟩ := e
      rw [← e1, ← e2] at hf
      have hf := hf.1
      have h1 := h.at' i (by omega)
      have h2 := h.at' (if i < j then j + 1 else j) (by split <;> omega)
      have h3 := h.at' (i + 1) (by omega)
      simp only [ho, h1, h2, h3, hw] at hf
      split at hf
      · rename_i q; simp at q
      · split at hf
        · rename_i v' T' ha
          have e := AV.beq_eq _ _ hf
          rw [hv] at e
          have : ((st i).L ++ [v]).getD i .undef = v := by
            have := h.len i (by omega)
            rw [List.getD_eq_getElem?_getD, List.getElem?_append_right (by omega), this]; simp
          rw [this] at e; subst e
          exact ⟨T', ha⟩
        · cases hf
    · exact floats_mem h hf.2 hm hi hj ho hw hv

end Go.Proofs.Ytmijfhepagobdaa.Avm
