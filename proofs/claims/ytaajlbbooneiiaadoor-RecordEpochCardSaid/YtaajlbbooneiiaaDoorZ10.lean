/- Specs: roles, names. Specs: names, searches, right lists. What sharing, changing and revoking answer. Specs: sorting in place, taking out. Specs: members taken out, shared, changed. Specs: sharing, changing, revoking. What the steps and the document's functions answer. Specs: steps; the document's functions on roles. Specs: steps, and the law of steps. Specs: the document's steps, and the law of steps. Manifests: what their functions answer. Specs: manifests. Values of the codec: what its functions answer. Specs: numbers as bytes. -/
import Derived.Test.YtaajlbbooneiiaaDoorZ8
import Derived.Test.YtaajlbbooneiiaaDoorZ9
set_option linter.unusedVariables false
set_option linter.unusedSimpArgs false
namespace Go.Proofs.YtaajlbbooneiiaaDoor.Avm

theorem idx_range {α : Type} (p : α → Bool) : ∀ (l : List α) (i : Nat), (idxP p i l = -1 ∧ ∀ m, m ∈ l → p m = false) ∨ ∃ j : Nat, ∃ h : j < l.length, idxP p i l = (i + j : Nat) ∧ p l[j] = true ∧ ∀ k, (hk : k < j) → p (l[k]'(by omega)) = false
  | [], i => .inl ⟨rfl, by simp⟩
  | m :: l, i => by
    by_cases h : p m = true
    · exact .inr ⟨0, by simp, by simp [idxP, h], by simpa using h, by simp⟩
    · have h : p m = false := by simpa using h
      rcases idx_range p l (i + 1) with ⟨h1, h2⟩ | ⟨j, h1, h2, h3, h4⟩
      · refine .inl ⟨by simp [idxP, h, h1], fun m' hm => ?_⟩
        cases hm with
        | head => exact h
        | tail _ hm => exact h2 m' hm
      · refine .inr ⟨j + 1, by simp; omega, by simp [idxP, h, h2]; omega, by simpa using h3, fun k hk => ?_⟩
        cases k with
        | zero => exact h
        | succ k => simpa using h4 k (by omega)
theorem of_none : ∀ (l : List Mem) (n : Str), (∀ m, m ∈ l → decide (m.name = n) = false) → ofP l n = 0
  | [], n, _ => rfl
  | m :: l, n, h => by
    have h1 := h m (.head _)
    simp only [decide_eq_false_iff_not] at h1
    simp only [ofP, h1, if_false]; exact of_none l n fun m' hm => h m' (.tail _ hm)
theorem of_some : ∀ (l : List Mem) (n : Str) (j : Nat) (h : j < l.length), l[j].name = n → (∀ k, (hk : k < j) → decide ((l[k]'(by omega)).name = n) = false) → ofP l n = l[j].role
  | m :: l, n, 0, h, h1, _ => by simp only [List.getElem_cons_zero] at h1; simp [ofP, h1]
  | m :: l, n, j + 1, h, h1, h2 => by
    have := h2 0 (by omega)
    simp only [List.getElem_cons_zero, decide_eq_false_iff_not] at this
    simp only [ofP, this, if_false, List.getElem_cons_succ]
    exact of_some l n j (by simpa using h) (by simpa using h1) fun k hk => by simpa using h2 (k + 1) (by omega)
theorem atP_spec (l : List Mem) (name : Str) : (atP l name = -1 ∧ ofP l name = 0 ∧ ∀ m, m ∈ l → m.name ≠ name) ∨ ∃ j : Nat, ∃ h : j < l.length, atP l name = j ∧ ofP l name = l[j].role ∧ l[j].name = name ∧ ∀ k, (hk : k < j) → (l[k]'(by omega)).name ≠ name := by
  rcases idx_range (fun m : Mem => decide (m.name = name)) l 0 with ⟨h1, h2⟩ | ⟨j, h1, h2, h3, h4⟩
  · exact .inl ⟨h1, of_none l name h2, fun m hm => by simpa using h2 m hm⟩
  · have h3 : l[j].name = name := by simpa using h3
    exact .inr ⟨j, h1, by simpa [atP] using h2, of_some l name j h1 h3 h4, h3, fun k hk => by simpa using h4 k hk⟩

theorem withP_succ {l : List Mem} {i : Nat} (hi : i < l.length) (n : Int) : withP (l.take (i + 1)) n = if n ≤ l[i].role then withP (l.take i) n ++ [l[i].name] else withP (l.take i) n := by
  rw [List.take_succ_eq_append_getElem hi]
  simp only [withP, List.filter_append, List.map_append]
  split <;> simp_all [List.filter_cons]
theorem withP_len (l : List Mem) (n : Int) : (withP l n).length ≤ l.length := by
  simp only [withP, List.length_map]; exact List.length_filter_le _ _

end Go.Proofs.YtaajlbbooneiiaaDoor.Avm
set_option linter.unusedVariables false
set_option linter.unusedSimpArgs false
namespace Go.Proofs.YtaajlbbooneiiaaDoor.Avm

theorem take_all {α : Type} {p : α → Bool} {l : List α} {i : Nat} (hi : i < l.length) (h : (l.take i).all p = true) (hp : p l[i] = true) : (l.take (i + 1)).all p = true := by
  rw [List.take_succ_eq_append_getElem hi, List.all_append, h]; simp [hp]
theorem all_bad {α : Type} {p : α → Bool} {l : List α} {i : Nat} (hi : i < l.length) (hp : p l[i] = false) : l.all p = false := by
  rw [List.all_eq_false]; exact ⟨_, List.getElem_mem hi, by simp [hp]⟩

theorem ok_name {E : Env} (hp : E.prim 68 = none) (hf : E.F 68 = some F68) : OkS E 68 e_name (gd k_name r_name) := by
  refine OkS.code hp hf (fun _ => rfl) fun s hk => ?_
  have hk : s.length ≤ 9223372036854775807 := hk
  simp -dsimp only [go_sem, F68, e_name]
  refine Ex.range (n := s.length) (fun i g T => g 0 = .str s ∧ (s.take i).all nameCh = true) (by decide) (by omega) rfl rfl ⟨rfl, rfl⟩ ?_ ?_
  · rintro i g T hi gi gn ⟨g0, hA⟩
    have hg := sidx_at .i64 (List.getElem?_eq_getElem hi)
    simp -dsimp only [go_sem, gi, gn, g0, hg]
    iterate 4 (all_goals try (refine cnd_intro (fun h => ?_) (fun h => ?_) <;> (try simp only [decide_eq_true_eq, decide_eq_false_iff_not, Bool.not_eq_true', Bool.not_eq_false', Bool.and_eq_true, Bool.or_eq_true, Bool.and_eq_false_iff, Bool.or_eq_false_iff, beq_iff_eq, beq_eq_false_iff_ne, ne_eq, Bool.not_eq_true, Bool.not_eq_false] at h) <;> simp -dsimp only [go_sem, *, gi, gn, g0, F68, r_name]))
    all_goals first
      | (refine congrArg AV.bool ?_; simp only [nameOk, all_bad hi (show nameCh s[i] = false by simp only [nameCh, decide_eq_false_iff_not]; omega), Bool.false_and])
      | exact take_all hi hA (by simp only [nameCh, decide_eq_true_eq]; omega)
  · rintro g T gi ⟨g0, hA⟩
    rw [List.take_length] at hA
    simp -dsimp only [go_sem, g0, F68, r_name]
    (refine cnd_intro (fun h => ?_) (fun h => ?_) <;> (try simp only [decide_eq_true_eq, decide_eq_false_iff_not, Bool.not_eq_true', Bool.not_eq_false', Bool.and_eq_true, Bool.or_eq_true, Bool.and_eq_false_iff, Bool.or_eq_false_iff, beq_iff_eq, beq_eq_false_iff_ne, ne_eq, Bool.not_eq_true, Bool.not_eq_false] at h) <;> simp -dsimp only [go_sem, *, g0, F68, r_name, nameOk])
    all_goals
      refine congrArg AV.bool ?_
      simp only [nameOk, hA, Bool.true_and]
      first
        | exact (decide_eq_false (by omega)).symm
        | exact decide_eq_decide.2 (by omega)

theorem ok_nameR {E : Env} (hp : E.prim 52 = none) (hf : E.F 52 = some F52) : OkS E 52 e_nameR (gd k_nameR r_nameR) := by
  refine OkS.code hp hf (fun _ => rfl) fun s hk => ?_
  have hk : s.length ≤ 9223372036854775807 := hk
  simp -dsimp only [go_sem, F52, e_nameR]
  iterate 3 (all_goals try (refine cnd_intro (fun h => ?_) (fun h => ?_) <;> (try simp only [decide_eq_true_eq, decide_eq_false_iff_not, Bool.not_eq_true', Bool.not_eq_false', Bool.and_eq_true, Bool.or_eq_true, Bool.and_eq_false_iff, Bool.or_eq_false_iff, beq_iff_eq, beq_eq_false_iff_ne, ne_eq, Bool.not_eq_true, Bool.not_eq_false] at h) <;> simp -dsimp only [go_sem, *, F52, r_nameR]))
  all_goals first
    | (refine congrArg AV.bool ?_; simp only [nameOk, show decide (1 ≤ s.length ∧ s.length ≤ 12) = false from decide_eq_false (by omega), Bool.and_false]; done)
    | skip
  refine Ex.count (n := s.length) (i0 := 0) (fun i g T => g 0 = .str s ∧ (s.take i).all nameCh = true) (by decide) (by omega) rfl (by omega) ⟨rfl, rfl⟩ ?_ ?_ ?_
  · rintro i g T hi gi ⟨g0, hA⟩
    simp -dsimp only [go_sem, gi, g0]
  · rintro i g T hi gi ⟨g0, hA⟩
    have hg := sidx_at .i64 (List.getElem?_eq_getElem hi)
    simp -dsimp only [go_sem, gi, g0, hg]
    iterate 5 (all_goals try (refine cnd_intro (fun h => ?_) (fun h => ?_) <;> (try simp only [decide_eq_true_eq, decide_eq_false_iff_not, Bool.not_eq_true', Bool.not_eq_false', Bool.and_eq_true, Bool.or_eq_true, Bool.and_eq_false_iff, Bool.or_eq_false_iff, beq_iff_eq, beq_eq_false_iff_ne, ne_eq, Bool.not_eq_true, Bool.not_eq_false] at h) <;> simp -dsimp only [go_sem, *, gi, g0, F52, r_nameR]))
    all_goals first
      | (refine congrArg AV.bool ?_; simp only [nameOk, all_bad hi (show nameCh s[i] = false by simp only [nameCh, decide_eq_false_iff_not]; omega), Bool.false_and]; done)
      | exact take_all hi hA (by simp only [nameCh, decide_eq_true_eq]; omega)
  · rintro g T gi ⟨g0, hA⟩
    rw [List.take_length] at hA
    simp -dsimp only [go_sem, g0, F52, r_nameR]
    refine congrArg AV.bool ?_
    simp only [nameOk, hA, Bool.true_and]
    exact (decide_eq_true (by omega)).symm

/-! right lists -/
theorem okFrom_iff : ∀ (p : Option Str) (l : List Mem), okFrom p l = true ↔ (∀ m, m ∈ l → nameOk m.name = true ∧ isRole m.role = true) ∧ (l.map (·.name)).Pairwise (fun a b => Op.bytesLess a b = true) ∧ ∀ q, p = some q → ∀ m, m ∈ l → Op.bytesLess q m.name = true
  | p, [] => by simp [okFrom]
  | p, m :: l => by
    have ih := okFrom_iff (some m.name) l
    simp only [okFrom, Bool.and_eq_true, ih, List.map_cons, List.pairwise_cons, List.mem_cons, forall_eq_or_imp, List.mem_map, forall_exists_index, and_imp, forall_apply_eq_imp_iff₂, Option.some.injEq, forall_eq']
    constructor
    · rintro ⟨⟨⟨h1, h2⟩, h3⟩, h4, h5, h6⟩
      refine ⟨⟨⟨h1, h2⟩, h4⟩, ⟨h6, h5⟩, fun q hq => ?_⟩
      subst hq
      exact ⟨h3, fun m' hm => bl_trans _ _ _ h3 (h6 m' hm)⟩
    · rintro ⟨⟨⟨h1, h2⟩, h4⟩, ⟨h6, h5⟩, h7⟩
      refine ⟨⟨⟨h1, h2⟩, ?_⟩, h4, h5, h6⟩
      cases p with
      | none => rfl
      | some q => exact (h7 q rfl).1

theorem okFrom_take : ∀ (p : Option Str) (l : List Mem) (i : Nat) (h : i < l.length), okFrom p (l.take (i + 1)) = (okFrom p (l.take i) && (nameOk l[i].name && isRole l[i].role && ltO (if i = 0 then p else some (l[i - 1]'(by omega)).name) l[i].name))
  | p, m :: l, 0, h => by simp [okFrom]
  | p, m :: l, i + 1, h => by
    have := okFrom_take (some m.name) l i (by simpa using h)
    simp only [List.take_succ_cons, okFrom, this, List.getElem_cons_succ, Nat.add_one_ne_zero, if_false, Nat.add_sub_cancel]
    cases i with
    | zero => simp [Bool.and_assoc]
    | succ i => simp [Bool.and_assoc]
theorem okFrom_mono (p : Option Str) (l : List Mem) (i : Nat) (h : okFrom p (l.take i) = false) : okFrom p l = false := by
  cases hh : okFrom p l with
  | false => rfl
  | true =>
    rw [okFrom_iff] at hh
    have : okFrom p (l.take i) = true := (okFrom_iff p _).2 ⟨fun m hm => hh.1 m (List.mem_of_mem_take hm), by rw [List.map_take]; exact hh.2.1.sublist (List.take_sublist _ _), fun q hq m hm => hh.2.2 q hq m (List.mem_of_mem_take hm)⟩
    rw [this] at h; cases h

end Go.Proofs.YtaajlbbooneiiaaDoor.Avm
set_option linter.unusedVariables false
set_option linter.unusedSimpArgs false
namespace Go.Proofs.YtaajlbbooneiiaaDoor.Avm

/-- an element goes down past greater ones -/
def insG (x : Mem) : List Mem → List Mem → List Mem
  | [], B => x :: B
  | a :: rA, B => if Op.bytesLess x.name a.name = true then insG x rA (a :: B) else (a :: rA).reverse ++ x :: B
def isortG : List Mem → List Mem → List Mem
  | acc, [] => acc
  | acc, x :: r => isortG (insG x acc.reverse []) r
def isort : List Mem → List Mem
  | [] => []
  | x :: r => isortG [x] r

def shareP (l : List Mem) (by' name : Str) (r : Int) : List Mem × Int :=
  if rightP l = false ∨ nameOk name = false ∨ isRole r = false then ([], 2)
  else if ofP l by' < 3 then ([], 40)
  else if 0 ≤ atP l name then ([], 42)
  else if highP l by' [r] = true then ([], 40)
  else if 8 ≤ l.length then ([], 3)
  else (isort (l ++ [⟨name, r⟩]), 0)
/-- the role at a place -/
def roleAt (l : List Mem) (i : Int) : Int := ((l[i.toNat]?).map (·.role)).getD 0
def changeP (l : List Mem) (by' name : Str) (r : Int) : List Mem × Int :=
  if rightP l = false ∨ nameOk name = false ∨ isRole r = false then ([], 2)
  else if ofP l by' < 3 then ([], 40)
  else if atP l name < 0 then ([], 35)
  else if highP l by' [r, ofP l name] = true then ([], 40)
  else if ofP l name = 4 ∧ r < 4 ∧ ownersP l = 1 then ([], 46)
  else (l.set (atP l name).toNat ⟨name, r⟩, 0)
def revokeP (l : List Mem) (by' name : Str) : List Mem × Int :=
  if rightP l = false ∨ nameOk name = false then ([], 2)
  else if by' ≠ name ∧ ofP l by' < 3 then ([], 40)
  else if atP l name < 0 then ([], 35)
  else if by' ≠ name ∧ highP l by' [ofP l name] = true then ([], 40)
  else if ofP l name = 4 ∧ ownersP l = 1 then ([], 46)
  else (l.eraseIdx (atP l name).toNat, 0)

def long2 (l : List Mem) (n : Str) : Prop := long1 l ∧ n.length ≤ 9223372036854775807
/-- the clones of a list of members -/
noncomputable abbrev p_clone : List AV → Store → Option (AV × Store) := primO (fun l : List Mem => [enc l]) (ownRow 1000000)
end Go.Proofs.YtaajlbbooneiiaaDoor.Avm
set_option linter.unusedVariables false
set_option linter.unusedSimpArgs false
namespace Go.Proofs.YtaajlbbooneiiaaDoor.Avm

theorem insG_len (x : Mem) : ∀ A B, (insG x A B).length = A.length + B.length + 1
  | [], B => by simp [insG]
  | a :: rA, B => by
    simp only [insG]; split
    · rw [insG_len x rA]; simp; omega
    · simp; omega
theorem isortG_len : ∀ (acc r : List Mem), (isortG acc r).length = acc.length + r.length
  | acc, [] => by simp [isortG]
  | acc, x :: r => by rw [isortG, isortG_len, insG_len]; simp; omega

end Go.Proofs.YtaajlbbooneiiaaDoor.Avm
set_option linter.unusedVariables false
set_option linter.unusedSimpArgs false
namespace Go.Proofs.YtaajlbbooneiiaaDoor.Avm

end Go.Proofs.YtaajlbbooneiiaaDoor.Avm
set_option linter.unusedVariables false
set_option linter.unusedSimpArgs false
namespace Go.Proofs.YtaajlbbooneiiaaDoor.Avm

theorem right_len {l : List Mem} (h : rightP l = true) : l.length ≤ 8 ∧ l ≠ [] := by
  simp only [rightP, Bool.and_eq_true, decide_eq_true_eq] at h
  refine ⟨h.1.2, fun e => ?_⟩
  subst e; simp [ownersP, withP] at h
theorem nilPair (n : Int) (S : Store) : Conv S S (.tup [.nilS, .int .i64 n]) S (.tup [enc ([] : List Mem), .int .i64 n]) :=
  Conv.good List.prefix_rfl (fun i h => by simp [topIds, topIdsL] at h) rfl

end Go.Proofs.YtaajlbbooneiiaaDoor.Avm
set_option linter.unusedVariables false
set_option linter.unusedSimpArgs false
namespace Go.Proofs.YtaajlbbooneiiaaDoor.Avm
deriving instance DecidableEq for Mem
theorem mem_ext {a b : Mem} : a = b ↔ a.name = b.name ∧ a.role = b.role := by cases a; cases b; simp
@[go_sem] theorem neq_mem (a b : Mem) : eqsA true [1, 0] (.agg [.str a.name, .int .i64 a.role]) (.agg [.str b.name, .int .i64 b.role]) = some (.bool !decide (a = b)) := by
  rw [eqsA_n _ _ _ rfl rfl (aeqs_s _ _ _ _ _ (aeqs_i _ _ _ _ _ _ aeqs_nil))]
  simp [mem_ext]
@[go_sem] theorem eq_mem (a b : Mem) : eqsA false [1, 0] (.agg [.str a.name, .int .i64 a.role]) (.agg [.str b.name, .int .i64 b.role]) = some (.bool (decide (a = b))) := by
  rw [eqsA_e _ _ _ rfl rfl (aeqs_s _ _ _ _ _ (aeqs_i _ _ _ _ _ _ aeqs_nil))]
  simp [mem_ext]

def stepE (was now : List Mem) (by' name : Str) : Int :=
  if ofP now name = 0 then (revokeP was by' name).2 else if atP was name < 0 then (shareP was by' name (ofP now name)).2 else (changeP was by' name (ofP now name)).2
def stepP (was now : List Mem) (by' : Str) : Bool × Int :=
  if rightP was = false ∨ rightP now = false then (false, 2)
  else if (differP was now).length ≠ 1 then (false, 11)
  else
    let name := (differP was now).headD []
    (decide (ofP now name = 0) && decide (stepE was now by' name = 0), stepE was now by' name)

def ownersRP (l : List Mem) : Nat := (l.filter fun m => decide (m.role = 4)).length
def shareRP (l : List Mem) (by' name : Str) (r : Int) : Int :=
  if ofP l by' < 3 then 40 else if ofP l name > 0 then 42 else if r > 2 ∧ ofP l by' < 4 then 40 else if l.length = 8 then 3 else 0
def changeRP (l : List Mem) (by' name : Str) (r : Int) : Int :=
  if ofP l by' < 3 then 40 else if ofP l name = 0 then 35 else if ofP l by' < 4 ∧ (r > 2 ∨ ofP l name > 2) then 40 else if ofP l name = 4 ∧ r < 4 ∧ ownersRP l = 1 then 46 else 0
def revokeRP (l : List Mem) (by' name : Str) : Int :=
  if by' ≠ name ∧ ofP l by' < 3 then 40 else if ofP l name = 0 then 35 else if by' ≠ name ∧ ofP l name > 2 ∧ ofP l by' < 4 then 40 else if ofP l name = 4 ∧ ownersRP l = 1 then 46 else 0
def stepRP (was now : List Mem) (by' : Str) : Bool × Int :=
  if rightP was = false ∨ rightP now = false then (false, 2)
  else if (differP was now).length ≠ 1 then (false, 11)
  else
    let name := (differP was now).headD []
    if ofP now name = 0 then (decide (revokeRP was by' name = 0), revokeRP was by' name)
    else if ofP was name = 0 then (false, shareRP was by' name (ofP now name)) else (false, changeRP was by' name (ofP now name))
def fewP (l : List Mem) : Bool := l.all (fun m => decide (m.name.length ≤ 20)) && decide (l.length ≤ 20)

end Go.Proofs.YtaajlbbooneiiaaDoor.Avm
set_option linter.unusedVariables false
set_option linter.unusedSimpArgs false
namespace Go.Proofs.YtaajlbbooneiiaaDoor.Avm

theorem filt_succ {α β : Type} {l : List α} {i : Nat} (hi : i < l.length) (p : α → Bool) (f : α → β) : ((l.take (i + 1)).filter p).map f = if p l[i] = true then ((l.take i).filter p).map f ++ [f l[i]] else ((l.take i).filter p).map f := by
  rw [List.take_succ_eq_append_getElem hi, List.filter_append, List.map_append]
  split <;> simp_all [List.filter_cons]
theorem filt_len {α β : Type} (l : List α) (i : Nat) (p : α → Bool) (f : α → β) : (((l.take i).filter p).map f).length ≤ l.length := by
  rw [List.length_map]; exact Nat.le_trans (List.length_filter_le _ _) (List.length_take_le' _ _)

end Go.Proofs.YtaajlbbooneiiaaDoor.Avm
set_option linter.unusedVariables false
set_option linter.unusedSimpArgs false
namespace Go.Proofs.YtaajlbbooneiiaaDoor.Avm

theorem differ_name {l m : List Mem} {n : Str} (h : n ∈ differP l m) : (∃ x, x ∈ l ∧ x.name = n) ∨ ∃ x, x ∈ m ∧ x.name = n := by
  simp only [differP, List.mem_append, List.mem_map, List.mem_filter] at h
  rcases h with ⟨x, h, rfl⟩ | ⟨x, h, rfl⟩
  · exact .inl ⟨x, h.1, rfl⟩
  · exact .inr ⟨x, h.1, rfl⟩

theorem head0 : ∀ {l : List Str} (h : 0 < l.length), l[0] = l.headD []
  | _ :: _, _ => rfl
/-- right lists, by all that stands ahead -/
theorem right_iff (l : List Mem) : rightP l = true ↔ (∀ m, m ∈ l → nameOk m.name = true ∧ isRole m.role = true) ∧ (l.map (·.name)).Pairwise (fun a b => Op.bytesLess a b = true) ∧ l.length ≤ 8 ∧ ownersRP l ≠ 0 := by
  simp only [rightP, Bool.and_eq_true, okFrom_iff, decide_eq_true_eq, ownersP, withP, ownersRP, List.length_map]
  constructor
  · rintro ⟨⟨⟨h1, h2, _⟩, h3⟩, h4⟩
    refine ⟨h1, h2, h3, ?_⟩
    have : (l.filter fun m => decide (m.role = 4)) = l.filter fun m => decide (4 ≤ m.role) := List.filter_congr fun m hm => by
      have := (h1 m hm).2
      simp only [isRole, decide_eq_true_eq] at this
      exact decide_eq_decide.2 (by omega)
    rw [this]; omega
  · rintro ⟨h1, h2, h3, h4⟩
    refine ⟨⟨⟨h1, h2, fun q hq => by cases hq⟩, h3⟩, ?_⟩
    have : (l.filter fun m => decide (m.role = 4)) = l.filter fun m => decide (4 ≤ m.role) := List.filter_congr fun m hm => by
      have := (h1 m hm).2
      simp only [isRole, decide_eq_true_eq] at this
      exact decide_eq_decide.2 (by omega)
    rw [← this]; omega

end Go.Proofs.YtaajlbbooneiiaaDoor.Avm
set_option linter.unusedVariables false
set_option linter.unusedSimpArgs false
namespace Go.Proofs.YtaajlbbooneiiaaDoor.Avm

theorem last_one {l : List Str} (h : l.length = 1) : l = [l.headD []] := by
  cases l with
  | nil => simp at h
  | cons a l => cases l with
    | nil => rfl
    | cons b l => simp at h

def dfA (m l : List Mem) : List Str := (l.filter fun x => decide (ofP m x.name ≠ x.role)).map (·.name)
def dfB (l m : List Mem) : List Str := (m.filter fun x => decide (ofP l x.name = 0)).map (·.name)
theorem dfA_succ {l : List Mem} {i : Nat} (hi : i < l.length) (m : List Mem) : dfA m (l.take (i + 1)) = if ¬ ofP m l[i].name = l[i].role then dfA m (l.take i) ++ [l[i].name] else dfA m (l.take i) := by
  unfold dfA; rw [filt_succ hi]; simp only [decide_eq_true_eq, ne_eq]
theorem dfB_succ {m : List Mem} {i : Nat} (hi : i < m.length) (l : List Mem) : dfB l (m.take (i + 1)) = if ofP l m[i].name = 0 then dfB l (m.take i) ++ [m[i].name] else dfB l (m.take i) := by
  unfold dfB; rw [filt_succ hi]; simp only [decide_eq_true_eq]
theorem isort_two : isort ([⟨[97], 4⟩] ++ [⟨[98], 2⟩]) = [⟨[97], 4⟩, ⟨[98], 2⟩] := rfl
/-! ### the plain law -/
theorem owners_right {l : List Mem} (h : rightP l = true) : ownersP l = ownersRP l := by
  have h1 := ((right_iff l).1 h).1
  simp only [ownersP, withP, ownersRP, List.length_map]
  congr 1
  exact List.filter_congr fun m hm => by
    have := (h1 m hm).2
    simp only [isRole, decide_eq_true_eq] at this
    exact decide_eq_decide.2 (by omega)
theorem of_at {l : List Mem} (h : rightP l = true) (n : Str) : (atP l n < 0 ↔ ofP l n = 0) ∧ (0 ≤ atP l n ↔ 0 < ofP l n) := by
  rcases atP_spec l n with ⟨h1, h2, _⟩ | ⟨j, hj, h1, h2, _⟩
  · exact ⟨by omega, by omega⟩
  · have := (((right_iff l).1 h).1 _ (List.getElem_mem hj)).2
    simp only [isRole, decide_eq_true_eq] at this
    exact ⟨by omega, by omega⟩
theorem high_one (l : List Mem) (b : Str) (x : Int) : (highP l b [x] = true) ↔ (3 ≤ x ∧ ofP l b < 4) := by
  show (decide (3 ≤ x) && decide (ofP l b < 4)) = true ↔ _
  simp only [Bool.and_eq_true, decide_eq_true_eq]
theorem high_two (l : List Mem) (b : Str) (x y : Int) : (highP l b [x, y] = true) ↔ ((3 ≤ x ∨ 3 ≤ y) ∧ ofP l b < 4) := by
  show (decide (3 ≤ (if y > x then y else x)) && decide (ofP l b < 4)) = true ↔ _
  simp only [Bool.and_eq_true, decide_eq_true_eq]
  split <;> omega
theorem of_ge {l : List Mem} (h : rightP l = true) (n : Str) : 0 ≤ ofP l n ∧ ofP l n ≤ 4 := by
  rcases atP_spec l n with ⟨_, h2, _⟩ | ⟨j, hj, _, h2, _⟩
  · omega
  · have := (((right_iff l).1 h).1 _ (List.getElem_mem hj)).2
    simp only [isRole, decide_eq_true_eq] at this
    omega
theorem revoke_eq {l : List Mem} (h : rightP l = true) {n : Str} (hn : nameOk n = true) (b : Str) : (revokeP l b n).2 = revokeRP l b n := by
  have h1 := (of_at h n).1
  have h2 := owners_right h
  have h4 := of_ge h n
  simp only [revokeP, revokeRP, h, hn, Bool.true_eq_false, or_self, if_false, h1, h2, high_one]
  by_cases hb : b = n
  · simp only [hb, ne_eq, not_true_eq_false, false_and, if_false]
    repeat' split
    all_goals first | rfl | (exfalso; omega)
  · simp only [ne_eq, hb, not_false_eq_true, true_and]
    repeat' split
    all_goals first | rfl | (exfalso; omega)
theorem share_eq {l : List Mem} (h : rightP l = true) {n : Str} (hn : nameOk n = true) {r : Int} (hr : isRole r = true) (b : Str) : (shareP l b n r).2 = shareRP l b n r := by
  have h1 := (of_at h n).2
  have h3 := (right_len h).1
  have h4 := of_ge h n
  simp only [shareP, shareRP, h, hn, hr, Bool.true_eq_false, or_self, if_false, high_one, h1]
  repeat' split
  all_goals first | rfl | (exfalso; omega)
theorem change_eq {l : List Mem} (h : rightP l = true) {n : Str} (hn : nameOk n = true) {r : Int} (hr : isRole r = true) (b : Str) : (changeP l b n r).2 = changeRP l b n r := by
  have h1 := (of_at h n).1
  have h2 := owners_right h
  simp only [changeP, changeRP, h, hn, hr, Bool.true_eq_false, or_self, if_false, h1, h2, high_two]
  repeat' split
  all_goals first | rfl | (exfalso; omega)
theorem step_eq (l m : List Mem) (b : Str) : stepP l m b = stepRP l m b := by
  unfold stepP stepRP
  split
  · rfl
  rename_i h
  simp only [not_or, Bool.not_eq_false] at h
  split
  · rfl
  rename_i h3
  have h3 : (differP l m).length = 1 := by omega
  have hz : 0 < (differP l m).length := by omega
  have hmem : (differP l m).headD [] ∈ differP l m := by rw [← head0 hz]; exact List.getElem_mem hz
  have hn : nameOk ((differP l m).headD []) = true := by
    rcases differ_name hmem with ⟨x, hx, e⟩ | ⟨x, hx, e⟩
    · rw [← e]; exact (((right_iff l).1 h.1).1 x hx).1
    · rw [← e]; exact (((right_iff m).1 h.2).1 x hx).1
  generalize (differP l m).headD [] = n at hn
  have hof : ofP m n ≠ 0 → isRole (ofP m n) = true := fun hne => by
    rcases atP_spec m n with ⟨_, h2, _⟩ | ⟨j, hj, _, h2, _⟩
    · exact absurd h2 hne
    · rw [h2]; exact (((right_iff m).1 h.2).1 _ (List.getElem_mem hj)).2
  simp only [stepE]
  by_cases h0 : ofP m n = 0
  · simp only [h0, if_true, decide_true, Bool.true_and, revoke_eq h.1 hn]
  · simp only [h0, if_false, decide_false, Bool.false_and]
    have := of_at h.1 n
    by_cases ha : ofP l n = 0
    · rw [if_pos ha, if_pos (this.1.2 ha), share_eq h.1 hn (hof h0)]
    · rw [if_neg ha, if_neg (fun q => ha (this.1.1 q)), change_eq h.1 hn (hof h0)]

end Go.Proofs.YtaajlbbooneiiaaDoor.Avm
set_option linter.unusedVariables false
set_option linter.unusedSimpArgs false
namespace Go.Proofs.YtaajlbbooneiiaaDoor.Avm

def MayQ (m : Mani) : Prop := nameOk m.folder = true ∧ nameOk m.by' = true ∧ 1 ≤ m.seq ∧ m.seq ≤ 1099511627776 ∧ (m.seq = 1 ↔ m.prev.length = 0) ∧ m.prev.length ≤ 64 ∧ (m.parent = [] ∨ nameOk m.parent = true) ∧ m.parent ≠ m.folder ∧ rightP m.members = true ∧ 0 ≤ m.cut ∧ m.cut ≤ m.seq
instance (m : Mani) : Decidable (MayQ m) := by unfold MayQ; infer_instance
def mayP (m : Mani) : Bool := decide (MayQ m)
def fewM (m : Mani) : Bool := m.members.all (fun x => decide (x.name.length ≤ 20)) && (decide (m.folder.length ≤ 20) && (decide (m.by'.length ≤ 20) && (decide (m.parent.length ≤ 20) && (decide (m.members.length ≤ 20) && decide (m.prev.length ≤ 100)))))
/-- no text is beyond what can be -/
def longM (m : Mani) : Prop := m.folder.length ≤ 9223372036854775807 ∧ m.by'.length ≤ 9223372036854775807 ∧ m.parent.length ≤ 9223372036854775807 ∧ long1 m.members ∧ m.prev.length ≤ 9223372036854775807
def beginsP (m : Mani) : Int := if (!mayP m) = true then 2 else if (!decide (m.seq = 1) || !decide (((m.members.length : Nat) : Int) = 1)) = true then 11
  else if (!decide ((m.members.map (·.name)).headD [] = m.by')) = true then 11 else if (!decide (m.cut = 0) || m.gone) = true then 11 else 0
def beginsRP (m : Mani) : Int := if (!mayP m) = true then 2 else if (decide (m.seq = 1) && decide (m.members = [⟨m.by', 4⟩]) && decide (m.cut = 0) && !m.gone) = true then 0 else 11
def followsP (w : Mani) (d : List UInt8) (m : Mani) : Int :=
  if (!mayP w || !mayP m) = true then 2
  else if (w.gone || !decide (m.folder = w.folder) || !decide (m.seq = w.seq + 1) || !decide (m.prev = d)) = true then 11
  else if m.gone = true then (if (!decide (w.members = m.members) || !decide (m.parent = w.parent) || !decide (m.cut = w.cut)) = true then 11 else if ofP w.members m.by' < 4 then 40 else 0)
  else if (!decide (m.parent = w.parent)) = true then (if (!decide (w.members = m.members) || !decide (m.cut = m.seq)) = true then 11 else if ofP w.members m.by' < 4 then 40 else 0)
  else if (!decide ((stepP w.members m.members m.by').2 = 0)) = true then (stepP w.members m.members m.by').2
  else if (((stepP w.members m.members m.by').1 && !decide (m.cut = m.seq)) || (!(stepP w.members m.members m.by').1 && !decide (m.cut = w.cut))) = true then 11 else 0
def followsRP (w : Mani) (d : List UInt8) (m : Mani) : Int :=
  if (!mayP w || !mayP m) = true then 2
  else if (w.gone || !decide (m.folder = w.folder) || !decide (m.seq - 1 = w.seq) || !decide (m.prev = d)) = true then 11
  else if m.gone = true then (if (!decide (w.members = m.members) || !decide (m.cut = w.cut) || !decide (m.parent = w.parent)) = true then 11 else if (!decide (ofP w.members m.by' = 4)) = true then 40 else 0)
  else if (!decide (m.parent = w.parent)) = true then (if (!decide (w.members = m.members) || !decide (m.cut = m.seq)) = true then 11 else if (!decide (ofP w.members m.by' = 4)) = true then 40 else 0)
  else if (!decide ((stepRP w.members m.members m.by').2 = 0)) = true then (stepRP w.members m.members m.by').2
  else if (((stepRP w.members m.members m.by').1 && decide (m.cut = m.seq)) || (!(stepRP w.members m.members m.by').1 && decide (m.cut = w.cut))) = true then 0 else 11

def e_bsame : (List UInt8) × (List UInt8) → List AV := fun | (a, b) => [enc a, enc b]
def k_bsame : (List UInt8) × (List UInt8) → Prop := fun | (a, b) => a.length ≤ 9223372036854775807
def r_bsame : (List UInt8) × (List UInt8) → AV := fun | (a, b) => .bool (decide (a = b))
noncomputable def p_bsame : List AV → Store → Option (AV × Store) := primS e_bsame (gd k_bsame r_bsame)
theorem i_bsame : Inj e_bsame := by
  rintro ⟨a1, b1⟩ ⟨a2, b2⟩ h
  simpa only [e_bsame, enc_inj, rec_inj, AV.str.injEq, AV.int.injEq, AV.bool.injEq, AV.agg.injEq, AV.ptr.injEq, AV.fn.injEq, List.cons.injEq, and_true, true_and, Prod.mk.injEq] using h
theorem c_bsame {E : Env} (h : E.prim 10 = some fun _ => p_bsame) (a : List UInt8) (b : List UInt8) (hk : a.length ≤ 9223372036854775807) {S : Store} {K : AV → Store → Prop} {d : Dm K} : SpD E 10 [enc a, enc b] S K d = K (.bool (decide (a = b))) S :=
  callS h i_bsame (a := (a, b)) (by simp only [e_bsame, rdSL_cons, rdSL_nil, rdS_int, rdS_bool, rdS_str, enc_rdS, rdS_fn0, rdS_csl0, rdS_rec, rdSL_rec, rdS_agg, rdS_tup, Option.bind_some, Option.map_some]) hk
theorem c_bsame' {E : Env} (h : E.prim 10 = some fun _ => p_bsame) {S : Store} {x0 x1 : AV} {a : List UInt8} {b : List UInt8} (h0 : rdS S x0 = some (enc a)) (h1 : rdS S x1 = some (enc b)) (hk : a.length ≤ 9223372036854775807) {K : AV → Store → Prop} {d : Dm K} : SpD E 10 [x0, x1] S K d = K (.bool (decide (a = b))) S :=
  callS h i_bsame (a := (a, b)) (by simp only [e_bsame, rdSL, h0, h1, Option.bind_some, Option.map_some]) hk
end Go.Proofs.YtaajlbbooneiiaaDoor.Avm
set_option linter.unusedVariables false
set_option linter.unusedSimpArgs false
set_option maxRecDepth 10000
namespace Go.Proofs.YtaajlbbooneiiaaDoor.Avm

theorem ok_bsame {E : Env} (hp : E.prim 10 = none) (hf : E.F 10 = some F10) : OkS E 10 e_bsame (gd k_bsame r_bsame) := by
  refine OkS.code hp hf (fun _ => rfl) fun ⟨a, b⟩ hk => ?_
  have hk : a.length ≤ 9223372036854775807 := hk
  simp -dsimp only [go_sem, F10, e_bsame, r_bsame]
  refine cnd_intro (fun h => ?_) (fun h => ?_) <;> simp only [decide_eq_true_eq, decide_eq_false_iff_not, Bool.not_eq_true', Bool.not_eq_false'] at h
  · have : ¬ a = b := fun e => h (by rw [e])
    simp -dsimp only [go_sem, F10, r_bsame, this]
  · have hl : a.length = b.length := by omega
    simp -dsimp only [go_sem, F10, r_bsame, hl]
    refine Ex.count (n := a.length) (i0 := 0) (fun i g T => g 0 = enc a ∧ g 1 = enc b ∧ a.take i = b.take i) (by decide) (by omega) rfl (by omega) ⟨rfl, rfl, rfl⟩ ?_ ?_ ?_
    · rintro i g T hi gi ⟨g0, g1, hI⟩
      simp -dsimp only [go_sem, gi, g0]
    · rintro i g T hi gi ⟨g0, g1, hI⟩
      have hib : i < b.length := by omega
      simp -dsimp only [go_sem, gi, g0, g1, ia_enc .i64 hi, ia_enc .i64 hib, ld_enc]
      refine cnd_intro (fun h => ?_) (fun h => ?_) <;> simp only [decide_eq_true_eq, decide_eq_false_iff_not, Bool.not_eq_true', Bool.not_eq_false'] at h
      · have : ¬ a = b := fun e => h (by subst e; rfl)
        simp -dsimp only [go_sem, F10, r_bsame, this]
      · simp -dsimp only [go_sem, gi, g0, g1]
        rw [List.take_succ_eq_append_getElem hi, List.take_succ_eq_append_getElem hib, hI]
        have : a[i] = b[i] := UInt8.toNat_inj.1 (by omega)
        rw [this]
    · rintro g T gi ⟨g0, g1, hI⟩
      have : a = b := by rw [List.take_of_length_le (Nat.le_refl _), hl, List.take_of_length_le (Nat.le_refl _)] at hI; exact hI
      simp -dsimp only [go_sem, F10, r_bsame, this]

theorem mayQ_of {m : Mani} (h1 : nameOk m.folder = true) (h2 : nameOk m.by' = true) (h3 : 1 ≤ m.seq) (h4 : m.seq ≤ 1099511627776) (h5 : m.seq = 1 ↔ m.prev.length = 0) (h6 : m.prev.length ≤ 64) (h7 : m.parent = [] ∨ nameOk m.parent = true) (h8 : m.parent ≠ m.folder) (h9 : rightP m.members = true) (h10 : 0 ≤ m.cut) (h11 : m.cut ≤ m.seq) : MayQ m :=
  ⟨h1, h2, h3, h4, h5, h6, h7, h8, h9, h10, h11⟩
theorem nameOk_ne {s : Str} (h : nameOk s = true) : s ≠ [] := by rintro rfl; simp [nameOk] at h
end Go.Proofs.YtaajlbbooneiiaaDoor.Avm
set_option linter.unusedVariables false
set_option linter.unusedSimpArgs false
namespace Go.Proofs.YtaajlbbooneiiaaDoor.Avm

inductive Val where
  | mk (k n : Int) (b : List UInt8) (l : List Val)
def Val.kind : Val → Int | .mk k _ _ _ => k
def Val.num : Val → Int | .mk _ n _ _ => n
def Val.bytes : Val → List UInt8 | .mk _ _ b _ => b
def Val.list : Val → List Val | .mk _ _ _ l => l
mutual
def Val.c : Val → List AV
  | .mk k n b l => [.int .i64 k, .int .i64 n, enc b, .csl (Val.cL l) l.length]
def Val.cL : List Val → List AV
  | [] => []
  | v :: l => Val.c v ++ Val.cL l
end
theorem Val.c_len (v : Val) : (Val.c v).length = 4 := by cases v; rfl
mutual
theorem Val.c_inj : ∀ a b : Val, Val.c a = Val.c b → a = b
  | .mk k n b l, .mk k' n' b' l', h => by
    simp only [Val.c, List.cons.injEq, AV.int.injEq, AV.csl.injEq, true_and, and_true, enc_inj] at h
    obtain ⟨rfl, rfl, rfl, h1, h2⟩ := h
    rw [Val.cL_inj l l' h2 h1]
theorem Val.cL_inj : ∀ l m : List Val, l.length = m.length → Val.cL l = Val.cL m → l = m
  | [], [], _, _ => rfl
  | [], _ :: _, h, _ => by simp at h
  | _ :: _, [], h, _ => by simp at h
  | a :: l, b :: m, hl, h => by
    simp only [Val.cL] at h
    have := List.append_inj h (by rw [Val.c_len, Val.c_len])
    rw [Val.c_inj a b this.1, Val.cL_inj l m (by simpa using hl) this.2]
end
mutual
theorem Val.c_pure : ∀ a : Val, PureL (Val.c a)
  | .mk k n b l => by
    simp only [Val.c]
    have h := Val.cL_pure l
    refine rd0L_cons rfl (rd0L_cons rfl (rd0L_cons (enc_rd0 b) (rd0L_cons ?_ .nil)))
    simp only [rd0]; rw [show rd0L (Val.cL l) = some (Val.cL l) from h]; rfl
theorem Val.cL_pure : ∀ l : List Val, PureL (Val.cL l)
  | [] => .nil
  | a :: l => by
    simp only [Val.cL]
    exact (Val.c_pure a).append (Val.cL_pure l)
end
instance : Rec Val where
  sz := 4
  c := Val.c
  len := Val.c_len
  pos := by decide
  inj := Val.c_inj
  pure := Val.c_pure
theorem Val.cL_eq : ∀ l : List Val, Val.cL l = cl l
  | [] => rfl
  | a :: l => by rw [Val.cL, Val.cL_eq l, cl_cons]; rfl
abbrev valL (v : Val) : List AV := [.int .i64 v.kind, .int .i64 v.num, enc v.bytes, enc v.list]
@[go_sem] theorem c_val (v : Val) : Rec.c v = valL v := by
  cases v; simp only [valL, Val.kind, Val.num, Val.bytes, Val.list, enc, ← Val.cL_eq]; rfl
@[go_sem] theorem z_val : Rec.sz Val = 4 := rfl
theorem val_inj {a b : Val} : a.kind = b.kind ∧ a.num = b.num ∧ a.bytes = b.bytes ∧ a.list = b.list ↔ a = b := by
  cases a; cases b; simp [Val.kind, Val.num, Val.bytes, Val.list]
theorem csl_v1 (v : Val) : AV.csl [.int .i64 v.kind, .int .i64 v.num, enc v.bytes, enc v.list] 1 = enc [v] := by
  show AV.csl (valL v) 1 = _
  rw [← c_val]; simp only [enc, cl_one, List.length_singleton]
attribute [go_sem] csl_v1 Int.natCast_zero
@[go_sem] theorem res_cell (g : Frame) (S : Store) (b : Bool) (n t : Nat) (rest : List ARes) : resA g S (.cell b n t :: rest) = (loadA S b n (g t)).bind fun v => (resA g S rest).map (v :: ·) := rfl
@[go_sem] theorem k_mk (k n : Int) (b : List UInt8) (l : List Val) : (Val.mk k n b l).kind = k := rfl
@[go_sem] theorem n_mk (k n : Int) (b : List UInt8) (l : List Val) : (Val.mk k n b l).num = n := rfl
@[go_sem] theorem b_mk (k n : Int) (b : List UInt8) (l : List Val) : (Val.mk k n b l).bytes = b := rfl
@[go_sem] theorem l_mk (k n : Int) (b : List UInt8) (l : List Val) : (Val.mk k n b l).list = l := rfl

/-! numbers as bytes -/
def leN : Nat → Nat → List UInt8
  | 0, _ => []
  | s + 1, n => UInt8.ofNat (n % 256) :: leN s (n / 256)
theorem leN_len : ∀ s n, (leN s n).length = s
  | 0, _ => rfl
  | s + 1, n => by simp [leN, leN_len s]
def lowP (n k : Int) : List UInt8 × Int := if 1 ≤ k ∧ k ≤ 8 ∧ 0 ≤ n ∧ n ≤ 4611686018427387904 ∧ n.toNat < 256 ^ k.toNat then (leN k.toNat n.toNat, 0) else ([], 2)
def putP (n k : Int) : List UInt8 × Int := ((lowP n k).1.reverse, (lowP n k).2)
def ofBE (b : List UInt8) : Nat := b.foldl (fun x c => x * 256 + c.toNat) 0
def getP (b : List UInt8) : Int × Int := if b.length = 0 then (0, 10) else if 8 < b.length then (0, 2) else if 4611686018427387904 < ofBE b then (0, 11) else (ofBE b, 0)
def plainP (n : Int) : List UInt8 := (putP n 8).1.dropWhile (· == 0)

/-! values -/
def nul : Val := .mk 0 0 [] []
def pure1 (v : Val) : Bool :=
  if v.kind = 1 then decide (0 ≤ v.num ∧ v.num ≤ 4611686018427387904) && (decide (v.bytes.length = 0) && decide (v.list.length = 0))
  else if v.kind = 2 then decide (v.num = 0) && (decide (v.bytes.length ≤ 1048576) && decide (v.list.length = 0))
  else if v.kind = 3 then decide (v.num = 0) && (decide (v.bytes.length = 0) && decide (v.list.length ≤ 4096))
  else false
mutual
def pureA : Val → Bool
  | .mk k n b l => pure1 (.mk k n b l) && pureAL l
def pureAL : List Val → Bool
  | [] => true
  | v :: l => pureA v && pureAL l
end
mutual
def deepA : Val → Nat
  | .mk k _ _ l => if k = 3 then deepAL l + 1 else 0
def deepAL : List Val → Nat
  | [] => 0
  | v :: l => max (deepA v) (deepAL l)
end
mutual
def bytesA : Val → List UInt8
  | .mk k n b l => if k = 1 then 1 :: UInt8.ofNat (plainP n).length :: plainP n else if k = 2 then 2 :: ((putP b.length 3).1 ++ b) else 3 :: ((putP l.length 2).1 ++ bytesAL l)
def bytesAL : List Val → List UInt8
  | [] => []
  | v :: l => bytesA v ++ bytesAL l
end
mutual
def measA : Val → Int → Int → Int × Bool
  | .mk k n b l, room, deep =>
    if (!pure1 (.mk k n b l) || (decide (room < 0) || decide (deep < 0))) = true then (0, false)
    else if k = 1 then (2 + ((plainP n).length : Nat), true) else if k = 2 then (4 + (b.length : Nat), true)
    else if deep = 0 then (0, false) else measAL l room (deep - 1) 3
def measAL : List Val → Int → Int → Int → Int × Bool
  | [], _, _, acc => (acc, true)
  | v :: l, room, deep, acc => if (measA v (room - acc) deep).2 = true then measAL l room deep (acc + (measA v (room - acc) deep).1) else (0, false)
end
def sizeP (v : Val) : Int × Bool := if (!(measA v 1048576 16).2 || decide (1048576 < (measA v 1048576 16).1)) = true then (0, false) else ((measA v 1048576 16).1, true)
def encodeP (v : Val) : List UInt8 × Int := if (sizeP v).2 = true then (bytesA v, 0) else ([], 2)

/-! reading -/
abbrev Rdr := List UInt8 × Int
def rdrL (s : Rdr) : List AV := [enc s.1, .int .i64 s.2]
theorem i_rdr : Inj rdrL := fun a b h => by
  simp only [rdrL, List.cons.injEq, enc_inj, AV.int.injEq, true_and, and_true] at h
  exact Prod.ext h.1 h.2
def takeP (s : Rdr) (n : Nat) : List UInt8 × Rdr := if s.2 = 0 then (if s.1.length < n then ([], (s.1, 10)) else (s.1.take n, (s.1.drop n, 0))) else ([], s)
def failP (s : Rdr) : Rdr := if s.2 = 0 then (s.1, 11) else s
def countP (s : Rdr) (n : Nat) : Nat × Rdr := (((getP (takeP s n).1).1).toNat, (takeP s n).2)
def numberP (s : Rdr) : Val × Rdr :=
  let s1 := countP s 1
  let s2 := if 8 < s1.1 then failP s1.2 else s1.2
  let s3 := takeP s2 s1.1
  if s3.1.length = 0 then (.mk 1 0 [] [], s3.2)
  else (.mk 1 (getP s3.1).1 [] [], if (getP s3.1).2 ≠ 0 ∨ s3.1.headD 0 = 0 then failP s3.2 else s3.2)
def itemsP (f : Rdr → Val × Rdr) : Nat → List Val → Rdr → List Val × Rdr
  | 0, acc, s => (acc, s)
  | n + 1, acc, s => if s.2 = 0 then itemsP f n (acc ++ [(f s).1]) (f s).2 else (acc, s)
def valueP : Nat → Rdr → Val × Rdr
  | deep, s =>
    let k := takeP s 1
    if k.2.2 ≠ 0 then (nul, k.2)
    else if (k.1.headD 0).toNat = 1 then numberP k.2
    else if (k.1.headD 0).toNat = 2 then
      let c := countP k.2 3
      (.mk 2 0 (takeP c.2 c.1).1 [], (takeP c.2 c.1).2)
    else if (k.1.headD 0).toNat = 3 then
      let c := countP k.2 2
      match deep with
      | 0 => (.mk 3 0 [] [], failP c.2)
      | deep + 1 =>
        let s1 := if 4096 < c.1 then failP c.2 else c.2
        (.mk 3 0 [] (itemsP (valueP deep) c.1 [] s1).1, (itemsP (valueP deep) c.1 [] s1).2)
    else (nul, failP k.2)
def decodeP (b : List UInt8) : Val × Int :=
  if 1048576 < b.length then (nul, 3)
  else
    let r := valueP 16 (b, 0)
    let e := if r.2.2 = 0 ∧ 0 < r.2.1.length then 12 else r.2.2
    if e ≠ 0 then (nul, e) else (r.1, 0)
def fieldsP (v : Val) (ks : List Int) : List Val × Bool := if v.kind = 3 ∧ v.list.map (·.kind) = ks then (v.list, true) else ([], false)

/-- codec.Of: the list as it is -/
def p_of02 (args : List AV) (S : Store) : Option (AV × Store) := match args with
  | [x] => if AV.beqL x.cells [x] = true then some (.agg [.int .i64 3, .int .i64 0, enc ([] : List UInt8), x], S) else none
  | _ => none
theorem c_of02 {E : Env} (h : E.prim 40 = some fun _ => p_of02) (x : AV) (hx : x.cells = [x]) {S : Store} {K : AV → Store → Prop} {d : Dm K} : SpD E 40 [x] S K d = K (.agg [.int .i64 3, .int .i64 0, enc ([] : List UInt8), x]) S :=
  Is.spD (Is.prim h (by simp only [p_of02]; rw [if_pos (by rw [hx]; exact AV.beqL_refl _)])) K d
def e_num02 : Int → List AV := fun n => [.int .i64 n]
def k_num02 : Int → Prop := fun n => True
def r_num02 : Int → AV := fun n => .agg (valL (.mk 1 n [] []))
noncomputable def p_num02 : List AV → Store → Option (AV × Store) := primG e_num02 (gd k_num02 r_num02)
theorem i_num02 : Inj e_num02 := by
  intro n1 n2 h
  simpa only [e_num02, enc_inj, rec_inj, AV.str.injEq, AV.int.injEq, AV.bool.injEq, AV.agg.injEq, AV.ptr.injEq, AV.fn.injEq, List.cons.injEq, and_true, true_and, Prod.mk.injEq] using h
theorem c_num02 {E : Env} (h : E.prim 41 = some fun _ => p_num02) (n : Int) {S : Store} {K : AV → Store → Prop} {d : Dm K} : SpD E 41 [.int .i64 n] S K d = K (.agg (valL (.mk 1 n [] []))) S := by
  have := callG h i_num02 (a := n) (S := S) (args := [.int .i64 n]) (K := K) (d := d) (by simp only [e_num02, rdSL_cons, rdSL_nil, rdS_int, rdS_bool, rdS_str, enc_rdS, rdS_fn0, rdS_csl0, rdS_rec, rdSL_rec, rdS_agg, rdS_tup, Option.bind_some, Option.map_some]) trivial
  simpa only [r_num02, topL_cons, topL_nil, top_int, top_bool, top_str, top_csl, enc_top, top_agg, top_rec, top_fn, List.nil_append, killL_nil] using this
theorem c_num02' {E : Env} (h : E.prim 41 = some fun _ => p_num02) {S : Store} {x0 : AV} {n : Int} (h0 : rdS S x0 = some (.int .i64 n)) {K : AV → Store → Prop} {d : Dm K} : SpD E 41 [x0] S K d = K (.agg (valL (.mk 1 n [] []))) (killL (topIdsL [x0]) S) :=
  callG h i_num02 (a := n) (by simp only [e_num02, rdSL, h0, Option.bind_some, Option.map_some]) trivial
def e_raw02 : List UInt8 → List AV := fun b => [enc b]
def k_raw02 : List UInt8 → Prop := fun b => True
def r_raw02 : List UInt8 → AV := fun b => .agg (valL (.mk 2 0 b []))
noncomputable def p_raw02 : List AV → Store → Option (AV × Store) := primG e_raw02 (gd k_raw02 r_raw02)
theorem i_raw02 : Inj e_raw02 := by
  intro b1 b2 h
  simpa only [e_raw02, enc_inj, rec_inj, AV.str.injEq, AV.int.injEq, AV.bool.injEq, AV.agg.injEq, AV.ptr.injEq, AV.fn.injEq, List.cons.injEq, and_true, true_and, Prod.mk.injEq] using h
theorem c_raw02 {E : Env} (h : E.prim 42 = some fun _ => p_raw02) (b : List UInt8) {S : Store} {K : AV → Store → Prop} {d : Dm K} : SpD E 42 [enc b] S K d = K (.agg (valL (.mk 2 0 b []))) S := by
  have := callG h i_raw02 (a := b) (S := S) (args := [enc b]) (K := K) (d := d) (by simp only [e_raw02, rdSL_cons, rdSL_nil, rdS_int, rdS_bool, rdS_str, enc_rdS, rdS_fn0, rdS_csl0, rdS_rec, rdSL_rec, rdS_agg, rdS_tup, Option.bind_some, Option.map_some]) trivial
  simpa only [r_raw02, topL_cons, topL_nil, top_int, top_bool, top_str, top_csl, enc_top, top_agg, top_rec, top_fn, List.nil_append, killL_nil] using this
theorem c_raw02' {E : Env} (h : E.prim 42 = some fun _ => p_raw02) {S : Store} {x0 : AV} {b : List UInt8} (h0 : rdS S x0 = some (enc b)) {K : AV → Store → Prop} {d : Dm K} : SpD E 42 [x0] S K d = K (.agg (valL (.mk 2 0 b []))) (killL (topIdsL [x0]) S) :=
  callG h i_raw02 (a := b) (by simp only [e_raw02, rdSL, h0, Option.bind_some, Option.map_some]) trivial
def e_low : Int × Int → List AV := fun | (n, k) => [.int .i64 n, .int .i64 k]
def k_low : Int × Int → Prop := fun | (n, k) => True
def r_low : Int × Int → AV := fun | (n, k) => .tup [enc (lowP n k).1, .int .i64 (lowP n k).2]
noncomputable def p_low : List AV → Store → Option (AV × Store) := primG e_low (gd k_low r_low)
theorem i_low : Inj e_low := by
  rintro ⟨n1, k1⟩ ⟨n2, k2⟩ h
  simpa only [e_low, enc_inj, rec_inj, AV.str.injEq, AV.int.injEq, AV.bool.injEq, AV.agg.injEq, AV.ptr.injEq, AV.fn.injEq, List.cons.injEq, and_true, true_and, Prod.mk.injEq] using h
theorem c_low {E : Env} (h : E.prim 60 = some fun _ => p_low) (n : Int) (k : Int) {S : Store} {K : AV → Store → Prop} {d : Dm K} : SpD E 60 [.int .i64 n, .int .i64 k] S K d = K (.tup [enc (lowP n k).1, .int .i64 (lowP n k).2]) S := by
  have := callG h i_low (a := (n, k)) (S := S) (args := [.int .i64 n, .int .i64 k]) (K := K) (d := d) (by simp only [e_low, rdSL_cons, rdSL_nil, rdS_int, rdS_bool, rdS_str, enc_rdS, rdS_fn0, rdS_csl0, rdS_rec, rdSL_rec, rdS_agg, rdS_tup, Option.bind_some, Option.map_some]) trivial
  simpa only [r_low, topL_cons, topL_nil, top_int, top_bool, top_str, top_csl, enc_top, top_agg, top_rec, top_fn, List.nil_append, killL_nil] using this
theorem c_low' {E : Env} (h : E.prim 60 = some fun _ => p_low) {S : Store} {x0 x1 : AV} {n : Int} {k : Int} (h0 : rdS S x0 = some (.int .i64 n)) (h1 : rdS S x1 = some (.int .i64 k)) {K : AV → Store → Prop} {d : Dm K} : SpD E 60 [x0, x1] S K d = K (.tup [enc (lowP n k).1, .int .i64 (lowP n k).2]) (killL (topIdsL [x0, x1]) S) :=
  callG h i_low (a := (n, k)) (by simp only [e_low, rdSL, h0, h1, Option.bind_some, Option.map_some]) trivial
def e_turned : List UInt8 → List AV := fun b => [enc b]
def k_turned : List UInt8 → Prop := fun b => b.length ≤ 1000000
def r_turned : List UInt8 → AV := fun b => enc b.reverse
noncomputable def p_turned : List AV → Store → Option (AV × Store) := primG e_turned (gd k_turned r_turned)
theorem i_turned : Inj e_turned := by
  intro b1 b2 h
  simpa only [e_turned, enc_inj, rec_inj, AV.str.injEq, AV.int.injEq, AV.bool.injEq, AV.agg.injEq, AV.ptr.injEq, AV.fn.injEq, List.cons.injEq, and_true, true_and, Prod.mk.injEq] using h
theorem c_turned {E : Env} (h : E.prim 61 = some fun _ => p_turned) (b : List UInt8) (hk : b.length ≤ 1000000) {S : Store} {K : AV → Store → Prop} {d : Dm K} : SpD E 61 [enc b] S K d = K (enc b.reverse) S := by
  have := callG h i_turned (a := b) (S := S) (args := [enc b]) (K := K) (d := d) (by simp only [e_turned, rdSL_cons, rdSL_nil, rdS_int, rdS_bool, rdS_str, enc_rdS, rdS_fn0, rdS_csl0, rdS_rec, rdSL_rec, rdS_agg, rdS_tup, Option.bind_some, Option.map_some]) hk
  simpa only [r_turned, topL_cons, topL_nil, top_int, top_bool, top_str, top_csl, enc_top, top_agg, top_rec, top_fn, List.nil_append, killL_nil] using this
theorem c_turned' {E : Env} (h : E.prim 61 = some fun _ => p_turned) {S : Store} {x0 : AV} {b : List UInt8} (h0 : rdS S x0 = some (enc b)) (hk : b.length ≤ 1000000) {K : AV → Store → Prop} {d : Dm K} : SpD E 61 [x0] S K d = K (enc b.reverse) (killL (topIdsL [x0]) S) :=
  callG h i_turned (a := b) (by simp only [e_turned, rdSL, h0, Option.bind_some, Option.map_some]) hk
def e_put01 : Int × Int → List AV := fun | (n, k) => [.int .i64 n, .int .i64 k]
def k_put01 : Int × Int → Prop := fun | (n, k) => True
def r_put01 : Int × Int → AV := fun | (n, k) => .tup [enc (putP n k).1, .int .i64 (putP n k).2]
noncomputable def p_put01 : List AV → Store → Option (AV × Store) := primG e_put01 (gd k_put01 r_put01)
theorem i_put01 : Inj e_put01 := by
  rintro ⟨n1, k1⟩ ⟨n2, k2⟩ h
  simpa only [e_put01, enc_inj, rec_inj, AV.str.injEq, AV.int.injEq, AV.bool.injEq, AV.agg.injEq, AV.ptr.injEq, AV.fn.injEq, List.cons.injEq, and_true, true_and, Prod.mk.injEq] using h
theorem c_put01 {E : Env} (h : E.prim 35 = some fun _ => p_put01) (n : Int) (k : Int) {S : Store} {K : AV → Store → Prop} {d : Dm K} : SpD E 35 [.int .i64 n, .int .i64 k] S K d = K (.tup [enc (putP n k).1, .int .i64 (putP n k).2]) S := by
  have := callG h i_put01 (a := (n, k)) (S := S) (args := [.int .i64 n, .int .i64 k]) (K := K) (d := d) (by simp only [e_put01, rdSL_cons, rdSL_nil, rdS_int, rdS_bool, rdS_str, enc_rdS, rdS_fn0, rdS_csl0, rdS_rec, rdSL_rec, rdS_agg, rdS_tup, Option.bind_some, Option.map_some]) trivial
  simpa only [r_put01, topL_cons, topL_nil, top_int, top_bool, top_str, top_csl, enc_top, top_agg, top_rec, top_fn, List.nil_append, killL_nil] using this
theorem c_put01' {E : Env} (h : E.prim 35 = some fun _ => p_put01) {S : Store} {x0 x1 : AV} {n : Int} {k : Int} (h0 : rdS S x0 = some (.int .i64 n)) (h1 : rdS S x1 = some (.int .i64 k)) {K : AV → Store → Prop} {d : Dm K} : SpD E 35 [x0, x1] S K d = K (.tup [enc (putP n k).1, .int .i64 (putP n k).2]) (killL (topIdsL [x0, x1]) S) :=
  callG h i_put01 (a := (n, k)) (by simp only [e_put01, rdSL, h0, h1, Option.bind_some, Option.map_some]) trivial
def e_get01 : List UInt8 → List AV := fun b => [enc b]
def k_get01 : List UInt8 → Prop := fun b => True
def r_get01 : List UInt8 → AV := fun b => .tup [.int .i64 (getP b).1, .int .i64 (getP b).2]
noncomputable def p_get01 : List AV → Store → Option (AV × Store) := primS e_get01 (gd k_get01 r_get01)
theorem i_get01 : Inj e_get01 := by
  intro b1 b2 h
  simpa only [e_get01, enc_inj, rec_inj, AV.str.injEq, AV.int.injEq, AV.bool.injEq, AV.agg.injEq, AV.ptr.injEq, AV.fn.injEq, List.cons.injEq, and_true, true_and, Prod.mk.injEq] using h
theorem c_get01 {E : Env} (h : E.prim 36 = some fun _ => p_get01) (b : List UInt8) {S : Store} {K : AV → Store → Prop} {d : Dm K} : SpD E 36 [enc b] S K d = K (.tup [.int .i64 (getP b).1, .int .i64 (getP b).2]) S :=
  callS h i_get01 (a := b) (by simp only [e_get01, rdSL_cons, rdSL_nil, rdS_int, rdS_bool, rdS_str, enc_rdS, rdS_fn0, rdS_csl0, rdS_rec, rdSL_rec, rdS_agg, rdS_tup, Option.bind_some, Option.map_some]) trivial
theorem c_get01' {E : Env} (h : E.prim 36 = some fun _ => p_get01) {S : Store} {x0 : AV} {b : List UInt8} (h0 : rdS S x0 = some (enc b)) {K : AV → Store → Prop} {d : Dm K} : SpD E 36 [x0] S K d = K (.tup [.int .i64 (getP b).1, .int .i64 (getP b).2]) S :=
  callS h i_get01 (a := b) (by simp only [e_get01, rdSL, h0, Option.bind_some, Option.map_some]) trivial
def e_plain : Int → List AV := fun n => [.int .i64 n]
def k_plain : Int → Prop := fun n => True
def r_plain : Int → AV := fun n => enc (plainP n)
noncomputable def p_plain : List AV → Store → Option (AV × Store) := primG e_plain (gd k_plain r_plain)
theorem i_plain : Inj e_plain := by
  intro n1 n2 h
  simpa only [e_plain, enc_inj, rec_inj, AV.str.injEq, AV.int.injEq, AV.bool.injEq, AV.agg.injEq, AV.ptr.injEq, AV.fn.injEq, List.cons.injEq, and_true, true_and, Prod.mk.injEq] using h
theorem c_plain {E : Env} (h : E.prim 78 = some fun _ => p_plain) (n : Int) {S : Store} {K : AV → Store → Prop} {d : Dm K} : SpD E 78 [.int .i64 n] S K d = K (enc (plainP n)) S := by
  have := callG h i_plain (a := n) (S := S) (args := [.int .i64 n]) (K := K) (d := d) (by simp only [e_plain, rdSL_cons, rdSL_nil, rdS_int, rdS_bool, rdS_str, enc_rdS, rdS_fn0, rdS_csl0, rdS_rec, rdSL_rec, rdS_agg, rdS_tup, Option.bind_some, Option.map_some]) trivial
  simpa only [r_plain, topL_cons, topL_nil, top_int, top_bool, top_str, top_csl, enc_top, top_agg, top_rec, top_fn, List.nil_append, killL_nil] using this
theorem c_plain' {E : Env} (h : E.prim 78 = some fun _ => p_plain) {S : Store} {x0 : AV} {n : Int} (h0 : rdS S x0 = some (.int .i64 n)) {K : AV → Store → Prop} {d : Dm K} : SpD E 78 [x0] S K d = K (enc (plainP n)) (killL (topIdsL [x0]) S) :=
  callG h i_plain (a := n) (by simp only [e_plain, rdSL, h0, Option.bind_some, Option.map_some]) trivial
def e_pure : Val → List AV := fun v => [.agg (valL v)]
def k_pure : Val → Prop := fun v => True
def r_pure : Val → AV := fun v => .bool (pure1 v)
noncomputable def p_pure : List AV → Store → Option (AV × Store) := primS e_pure (gd k_pure r_pure)
theorem i_pure : Inj e_pure := by
  intro v1 v2 h
  simpa only [e_pure, enc_inj, rec_inj, AV.str.injEq, AV.int.injEq, AV.bool.injEq, AV.agg.injEq, AV.ptr.injEq, AV.fn.injEq, List.cons.injEq, and_true, true_and, Prod.mk.injEq, val_inj] using h
theorem c_pure {E : Env} (h : E.prim 89 = some fun _ => p_pure) (v : Val) {S : Store} {K : AV → Store → Prop} {d : Dm K} : SpD E 89 [.agg (valL v)] S K d = K (.bool (pure1 v)) S :=
  callS h i_pure (a := v) (by simp only [e_pure, rdSL_cons, rdSL_nil, rdS_int, rdS_bool, rdS_str, enc_rdS, rdS_fn0, rdS_csl0, rdS_rec, rdSL_rec, rdS_agg, rdS_tup, Option.bind_some, Option.map_some]) trivial
theorem c_pure' {E : Env} (h : E.prim 89 = some fun _ => p_pure) {S : Store} {x0 : AV} {v : Val} (h0 : rdS S x0 = some (.agg (valL v))) {K : AV → Store → Prop} {d : Dm K} : SpD E 89 [x0] S K d = K (.bool (pure1 v)) S :=
  callS h i_pure (a := v) (by simp only [e_pure, rdSL, h0, Option.bind_some, Option.map_some]) trivial
def e_measure : Val × Int × Int → List AV := fun | (v, room, deep) => [.agg (valL v), .int .i64 room, .int .i64 deep]
def k_measure (dp : Nat) : Val × Int × Int → Prop := fun | (v, room, deep) => 0 ≤ deep ∧ deep < (dp : Int) ∧ deep ≤ 16 ∧ room ≤ 1048576 ∧ -2097152 ≤ room
def r_measure : Val × Int × Int → AV := fun | (v, room, deep) => .tup [.int .i64 (measA v room deep).1, .bool (measA v room deep).2]
noncomputable def p_measure (dp : Nat) : List AV → Store → Option (AV × Store) := primS e_measure (gd (k_measure dp) r_measure)
theorem i_measure : Inj e_measure := by
  rintro ⟨v1, room1, deep1⟩ ⟨v2, room2, deep2⟩ h
  simpa only [e_measure, enc_inj, rec_inj, AV.str.injEq, AV.int.injEq, AV.bool.injEq, AV.agg.injEq, AV.ptr.injEq, AV.fn.injEq, List.cons.injEq, and_true, true_and, Prod.mk.injEq, val_inj] using h
theorem c_measure {E : Env} {dp : Nat} (h : E.prim 77 = some fun _ => p_measure dp) (v : Val) (room : Int) (deep : Int) (hk : 0 ≤ deep ∧ deep < (dp : Int) ∧ deep ≤ 16 ∧ room ≤ 1048576 ∧ -2097152 ≤ room) {S : Store} {K : AV → Store → Prop} {d : Dm K} : SpD E 77 [.agg (valL v), .int .i64 room, .int .i64 deep] S K d = K (.tup [.int .i64 (measA v room deep).1, .bool (measA v room deep).2]) S :=
  callS h i_measure (a := (v, room, deep)) (by simp only [e_measure, rdSL_cons, rdSL_nil, rdS_int, rdS_bool, rdS_str, enc_rdS, rdS_fn0, rdS_csl0, rdS_rec, rdSL_rec, rdS_agg, rdS_tup, Option.bind_some, Option.map_some]) hk
theorem c_measure' {E : Env} {dp : Nat} (h : E.prim 77 = some fun _ => p_measure dp) {S : Store} {x0 x1 x2 : AV} {v : Val} {room : Int} {deep : Int} (h0 : rdS S x0 = some (.agg (valL v))) (h1 : rdS S x1 = some (.int .i64 room)) (h2 : rdS S x2 = some (.int .i64 deep)) (hk : 0 ≤ deep ∧ deep < (dp : Int) ∧ deep ≤ 16 ∧ room ≤ 1048576 ∧ -2097152 ≤ room) {K : AV → Store → Prop} {d : Dm K} : SpD E 77 [x0, x1, x2] S K d = K (.tup [.int .i64 (measA v room deep).1, .bool (measA v room deep).2]) S :=
  callS h i_measure (a := (v, room, deep)) (by simp only [e_measure, rdSL, h0, h1, h2, Option.bind_some, Option.map_some]) hk
def e_size : Val → List AV := fun v => [.agg (valL v)]
def k_size : Val → Prop := fun v => True
def r_size : Val → AV := fun v => .tup [.int .i64 (sizeP v).1, .bool (sizeP v).2]
noncomputable def p_size : List AV → Store → Option (AV × Store) := primS e_size (gd k_size r_size)
theorem i_size : Inj e_size := by
  intro v1 v2 h
  simpa only [e_size, enc_inj, rec_inj, AV.str.injEq, AV.int.injEq, AV.bool.injEq, AV.agg.injEq, AV.ptr.injEq, AV.fn.injEq, List.cons.injEq, and_true, true_and, Prod.mk.injEq, val_inj] using h
theorem c_size {E : Env} (h : E.prim 63 = some fun _ => p_size) (v : Val) {S : Store} {K : AV → Store → Prop} {d : Dm K} : SpD E 63 [.agg (valL v)] S K d = K (.tup [.int .i64 (sizeP v).1, .bool (sizeP v).2]) S :=
  callS h i_size (a := v) (by simp only [e_size, rdSL_cons, rdSL_nil, rdS_int, rdS_bool, rdS_str, enc_rdS, rdS_fn0, rdS_csl0, rdS_rec, rdSL_rec, rdS_agg, rdS_tup, Option.bind_some, Option.map_some]) trivial
theorem c_size' {E : Env} (h : E.prim 63 = some fun _ => p_size) {S : Store} {x0 : AV} {v : Val} (h0 : rdS S x0 = some (.agg (valL v))) {K : AV → Store → Prop} {d : Dm K} : SpD E 63 [x0] S K d = K (.tup [.int .i64 (sizeP v).1, .bool (sizeP v).2]) S :=
  callS h i_size (a := v) (by simp only [e_size, rdSL, h0, Option.bind_some, Option.map_some]) trivial
def e_encode : Val → List AV := fun v => [.agg (valL v)]
def k_encode : Val → Prop := fun v => True
def r_encode : Val → AV := fun v => .tup [enc (encodeP v).1, .int .i64 (encodeP v).2]
noncomputable def p_encode : List AV → Store → Option (AV × Store) := primG e_encode (gd k_encode r_encode)
theorem i_encode : Inj e_encode := by
  intro v1 v2 h
  simpa only [e_encode, enc_inj, rec_inj, AV.str.injEq, AV.int.injEq, AV.bool.injEq, AV.agg.injEq, AV.ptr.injEq, AV.fn.injEq, List.cons.injEq, and_true, true_and, Prod.mk.injEq, val_inj] using h
theorem c_encode {E : Env} (h : E.prim 43 = some fun _ => p_encode) (v : Val) {S : Store} {K : AV → Store → Prop} {d : Dm K} : SpD E 43 [.agg (valL v)] S K d = K (.tup [enc (encodeP v).1, .int .i64 (encodeP v).2]) S := by
  have := callG h i_encode (a := v) (S := S) (args := [.agg (valL v)]) (K := K) (d := d) (by simp only [e_encode, rdSL_cons, rdSL_nil, rdS_int, rdS_bool, rdS_str, enc_rdS, rdS_fn0, rdS_csl0, rdS_rec, rdSL_rec, rdS_agg, rdS_tup, Option.bind_some, Option.map_some]) trivial
  simpa only [r_encode, topL_cons, topL_nil, top_int, top_bool, top_str, top_csl, enc_top, top_agg, top_rec, top_fn, List.nil_append, killL_nil] using this
theorem c_encode' {E : Env} (h : E.prim 43 = some fun _ => p_encode) {S : Store} {x0 : AV} {v : Val} (h0 : rdS S x0 = some (.agg (valL v))) {K : AV → Store → Prop} {d : Dm K} : SpD E 43 [x0] S K d = K (.tup [enc (encodeP v).1, .int .i64 (encodeP v).2]) (killL (topIdsL [x0]) S) :=
  callG h i_encode (a := v) (by simp only [e_encode, rdSL, h0, Option.bind_some, Option.map_some]) trivial
def e_fields : Val × (List Int) → List AV := fun | (v, ks) => [.agg (valL v), enc ks]
def k_fields : Val × (List Int) → Prop := fun | (v, ks) => ks.length ≤ 9223372036854775807 ∧ v.list.length ≤ 9223372036854775807
def r_fields : Val × (List Int) → AV := fun | (v, ks) => .tup [enc (fieldsP v ks).1, .bool (fieldsP v ks).2]
noncomputable def p_fields : List AV → Store → Option (AV × Store) := primG e_fields (gd k_fields r_fields)
theorem i_fields : Inj e_fields := by
  rintro ⟨v1, ks1⟩ ⟨v2, ks2⟩ h
  simpa only [e_fields, enc_inj, rec_inj, AV.str.injEq, AV.int.injEq, AV.bool.injEq, AV.agg.injEq, AV.ptr.injEq, AV.fn.injEq, List.cons.injEq, and_true, true_and, Prod.mk.injEq, val_inj] using h
theorem c_fields {E : Env} (h : E.prim 54 = some fun _ => p_fields) (v : Val) (ks : List Int) (hk : ks.length ≤ 9223372036854775807 ∧ v.list.length ≤ 9223372036854775807) {S : Store} {K : AV → Store → Prop} {d : Dm K} : SpD E 54 [.agg (valL v), enc ks] S K d = K (.tup [enc (fieldsP v ks).1, .bool (fieldsP v ks).2]) S := by
  have := callG h i_fields (a := (v, ks)) (S := S) (args := [.agg (valL v), enc ks]) (K := K) (d := d) (by simp only [e_fields, rdSL_cons, rdSL_nil, rdS_int, rdS_bool, rdS_str, enc_rdS, rdS_fn0, rdS_csl0, rdS_rec, rdSL_rec, rdS_agg, rdS_tup, Option.bind_some, Option.map_some]) hk
  simpa only [r_fields, topL_cons, topL_nil, top_int, top_bool, top_str, top_csl, enc_top, top_agg, top_rec, top_fn, List.nil_append, killL_nil] using this
theorem c_fields' {E : Env} (h : E.prim 54 = some fun _ => p_fields) {S : Store} {x0 x1 : AV} {v : Val} {ks : List Int} (h0 : rdS S x0 = some (.agg (valL v))) (h1 : rdS S x1 = some (enc ks)) (hk : ks.length ≤ 9223372036854775807 ∧ v.list.length ≤ 9223372036854775807) {K : AV → Store → Prop} {d : Dm K} : SpD E 54 [x0, x1] S K d = K (.tup [enc (fieldsP v ks).1, .bool (fieldsP v ks).2]) (killL (topIdsL [x0, x1]) S) :=
  callG h i_fields (a := (v, ks)) (by simp only [e_fields, rdSL, h0, h1, Option.bind_some, Option.map_some]) hk
def e_take : Nat → List AV := fun n => [.int .i64 n]
def k_take : Rdr → Nat → Prop := fun s => fun n => True
def r_take : Rdr → Nat → AV × Rdr := fun s => fun n => (enc (takeP s n).1, (takeP s n).2)
noncomputable def p_take : List AV → Store → Option (AV × Store) := primM rdrL e_take (gdM k_take r_take)
theorem i_take : Inj e_take := by
  intro n1 n2 h
  simpa only [e_take, enc_inj, rec_inj, AV.str.injEq, AV.int.injEq, AV.bool.injEq, AV.agg.injEq, AV.ptr.injEq, AV.fn.injEq, List.cons.injEq, and_true, true_and, Prod.mk.injEq, Int.natCast_inj] using h
theorem c_take {E : Env} (h : E.prim 81 = some fun _ => p_take) {S : Store} {id : Nat} {s : Rdr} (hs : S[id]? = some (.cells (rdrL s))) (n : Nat) {K : AV → Store → Prop} {d : Dm K} : SpD E 81 [.ptr id 0, .int .i64 n] S K d = K (enc (takeP s n).1) (S.set id (.cells (rdrL ((takeP s n).2)))) :=
  callM h i_rdr i_take (s := s) (a := n) (args := [.int .i64 n]) hs (by simp only [rd0L, rd0, e_take, enc_rd0, Option.bind_some, Option.map_some]) trivial
def e_fail : Unit → List AV := fun _ => []
def k_fail : Rdr → Unit → Prop := fun s => fun _ => True
def r_fail : Rdr → Unit → AV × Rdr := fun s => fun _ => (AV.tup [], failP s)
noncomputable def p_fail : List AV → Store → Option (AV × Store) := primM rdrL e_fail (gdM k_fail r_fail)
theorem i_fail : Inj e_fail := fun _ _ _ => rfl
theorem c_fail {E : Env} (h : E.prim 84 = some fun _ => p_fail) {S : Store} {id : Nat} {s : Rdr} (hs : S[id]? = some (.cells (rdrL s)))  {K : AV → Store → Prop} {d : Dm K} : SpD E 84 [.ptr id 0] S K d = K (AV.tup []) (S.set id (.cells (rdrL (failP s)))) :=
  callM h i_rdr i_fail (s := s) (a := ()) (args := []) hs (by simp only [rd0L, rd0, e_fail, enc_rd0, Option.bind_some, Option.map_some]) trivial
def e_count : Nat → List AV := fun n => [.int .i64 n]
def k_count : Rdr → Nat → Prop := fun s => fun n => True
def r_count : Rdr → Nat → AV × Rdr := fun s => fun n => (.int .i64 (countP s n).1, (countP s n).2)
noncomputable def p_count : List AV → Store → Option (AV × Store) := primM rdrL e_count (gdM k_count r_count)
theorem i_count : Inj e_count := by
  intro n1 n2 h
  simpa only [e_count, enc_inj, rec_inj, AV.str.injEq, AV.int.injEq, AV.bool.injEq, AV.agg.injEq, AV.ptr.injEq, AV.fn.injEq, List.cons.injEq, and_true, true_and, Prod.mk.injEq, Int.natCast_inj] using h
theorem c_count {E : Env} (h : E.prim 83 = some fun _ => p_count) {S : Store} {id : Nat} {s : Rdr} (hs : S[id]? = some (.cells (rdrL s))) (n : Nat) {K : AV → Store → Prop} {d : Dm K} : SpD E 83 [.ptr id 0, .int .i64 n] S K d = K (.int .i64 (countP s n).1) (S.set id (.cells (rdrL ((countP s n).2)))) :=
  callM h i_rdr i_count (s := s) (a := n) (args := [.int .i64 n]) hs (by simp only [rd0L, rd0, e_count, enc_rd0, Option.bind_some, Option.map_some]) trivial
def e_number : Unit → List AV := fun _ => []
def k_number : Rdr → Unit → Prop := fun s => fun _ => True
def r_number : Rdr → Unit → AV × Rdr := fun s => fun _ => (.agg (valL (numberP s).1), (numberP s).2)
noncomputable def p_number : List AV → Store → Option (AV × Store) := primM rdrL e_number (gdM k_number r_number)
theorem i_number : Inj e_number := fun _ _ _ => rfl
theorem c_number {E : Env} (h : E.prim 82 = some fun _ => p_number) {S : Store} {id : Nat} {s : Rdr} (hs : S[id]? = some (.cells (rdrL s)))  {K : AV → Store → Prop} {d : Dm K} : SpD E 82 [.ptr id 0] S K d = K (.agg (valL (numberP s).1)) (S.set id (.cells (rdrL ((numberP s).2)))) :=
  callM h i_rdr i_number (s := s) (a := ()) (args := []) hs (by simp only [rd0L, rd0, e_number, enc_rd0, Option.bind_some, Option.map_some]) trivial
def e_decode : List UInt8 → List AV := fun b => [enc b]
def k_decode : List UInt8 → Prop := fun b => True
def r_decode : List UInt8 → AV := fun b => .tup [.agg (valL (decodeP b).1), .int .i64 (decodeP b).2]
noncomputable def p_decode : List AV → Store → Option (AV × Store) := primG e_decode (gd k_decode r_decode)
theorem i_decode : Inj e_decode := by
  intro b1 b2 h
  simpa only [e_decode, enc_inj, rec_inj, AV.str.injEq, AV.int.injEq, AV.bool.injEq, AV.agg.injEq, AV.ptr.injEq, AV.fn.injEq, List.cons.injEq, and_true, true_and, Prod.mk.injEq] using h
theorem c_decode {E : Env} (h : E.prim 48 = some fun _ => p_decode) (b : List UInt8) {S : Store} {K : AV → Store → Prop} {d : Dm K} : SpD E 48 [enc b] S K d = K (.tup [.agg (valL (decodeP b).1), .int .i64 (decodeP b).2]) S := by
  have := callG h i_decode (a := b) (S := S) (args := [enc b]) (K := K) (d := d) (by simp only [e_decode, rdSL_cons, rdSL_nil, rdS_int, rdS_bool, rdS_str, enc_rdS, rdS_fn0, rdS_csl0, rdS_rec, rdSL_rec, rdS_agg, rdS_tup, Option.bind_some, Option.map_some]) trivial
  simpa only [r_decode, topL_cons, topL_nil, top_int, top_bool, top_str, top_csl, enc_top, top_agg, top_rec, top_fn, List.nil_append, killL_nil] using this
theorem c_decode' {E : Env} (h : E.prim 48 = some fun _ => p_decode) {S : Store} {x0 : AV} {b : List UInt8} (h0 : rdS S x0 = some (enc b)) {K : AV → Store → Prop} {d : Dm K} : SpD E 48 [x0] S K d = K (.tup [.agg (valL (decodeP b).1), .int .i64 (decodeP b).2]) (killL (topIdsL [x0]) S) :=
  callG h i_decode (a := b) (by simp only [e_decode, rdSL, h0, Option.bind_some, Option.map_some]) trivial
def e_value : Nat → List AV := fun n => [.int .i64 n]
def k_value (dp : Nat) : Rdr → Nat → Prop := fun s => fun n => n < dp ∧ n ≤ 16
def r_value : Rdr → Nat → AV × Rdr := fun s => fun n => (.agg (valL (valueP n s).1), (valueP n s).2)
noncomputable def p_value (dp : Nat) : List AV → Store → Option (AV × Store) := primM rdrL e_value (gdM (k_value dp) r_value)
theorem i_value : Inj e_value := by
  intro n1 n2 h
  simpa only [e_value, enc_inj, rec_inj, AV.str.injEq, AV.int.injEq, AV.bool.injEq, AV.agg.injEq, AV.ptr.injEq, AV.fn.injEq, List.cons.injEq, and_true, true_and, Prod.mk.injEq, Int.natCast_inj] using h
theorem c_value {E : Env} {dp : Nat} (h : E.prim 66 = some fun _ => p_value dp) {S : Store} {id : Nat} {s : Rdr} (hs : S[id]? = some (.cells (rdrL s))) (n : Nat) (hk : n < dp ∧ n ≤ 16) {K : AV → Store → Prop} {d : Dm K} : SpD E 66 [.ptr id 0, .int .i64 n] S K d = K (.agg (valL (valueP n s).1)) (S.set id (.cells (rdrL ((valueP n s).2)))) :=
  callM h i_rdr i_value (s := s) (a := n) (args := [.int .i64 n]) hs (by simp only [rd0L, rd0, e_value, enc_rd0, Option.bind_some, Option.map_some]) hk

theorem add_ne {E : Env} {f g : Nat} {p : List AV → Store → Option (AV × Store)} (h : g ≠ f) : (E.add f p).prim g = E.prim g := if_neg h
theorem add_eq {E : Env} {f : Nat} {p : List AV → Store → Option (AV × Store)} : (E.add f p).prim f = some fun _ => p := if_pos rfl
mutual
theorem Val.ind {P : Val → Prop} (h : ∀ k n b l, (∀ w, w ∈ l → P w) → P (.mk k n b l)) : ∀ v, P v
  | .mk k n b l => h k n b l (Val.indL h l)
theorem Val.indL {P : Val → Prop} (h : ∀ k n b l, (∀ w, w ∈ l → P w) → P (.mk k n b l)) : ∀ l : List Val, ∀ w, w ∈ l → P w
  | [], w, hw => by cases hw
  | v :: l, w, hw => by
    cases hw with
    | head => exact Val.ind h v
    | tail _ hw => exact Val.indL h l w hw
end
theorem pureAL_mem : ∀ {l : List Val}, pureAL l = true → ∀ w, w ∈ l → pureA w = true
  | [], _, w, hw => by cases hw
  | v :: l, h, w, hw => by
    simp only [pureAL, Bool.and_eq_true] at h
    cases hw with
    | head => exact h.1
    | tail _ hw => exact pureAL_mem h.2 w hw
theorem pureAL_of : ∀ {l : List Val}, (∀ w, w ∈ l → pureA w = true) → pureAL l = true
  | [], _ => rfl
  | v :: l, h => by simp only [pureAL, h v List.mem_cons_self, pureAL_of fun w hw => h w (List.mem_cons_of_mem _ hw), Bool.and_self]
theorem bytesAL_append : ∀ (l m : List Val), bytesAL (l ++ m) = bytesAL l ++ bytesAL m
  | [], m => rfl
  | v :: l, m => by simp only [List.cons_append, bytesAL, bytesAL_append l m, List.append_assoc]
theorem bytesAL_len : ∀ {l : List Val} (w : Val), w ∈ l → (bytesA w).length ≤ (bytesAL l).length
  | [], w, hw => by cases hw
  | v :: l, w, hw => by
    simp only [bytesAL, List.length_append]
    cases hw with
    | head => omega
    | tail _ hw => have := bytesAL_len w hw; omega
theorem plain_len (n : Int) : (plainP n).length ≤ 8 := by
  have h : ∀ l : List UInt8, (l.dropWhile (· == 0)).length ≤ l.length := fun l => (List.dropWhile_sublist _).length_le
  refine Nat.le_trans (h _) ?_
  unfold putP lowP; simp only; split
  · simp only [List.length_reverse, leN_len]; omega
  · simp
theorem pure1_3 {v : Val} (h : pure1 v = true) (h1 : v.kind ≠ 1) (h2 : v.kind ≠ 2) : v.kind = 3 ∧ v.num = 0 ∧ v.bytes.length = 0 ∧ v.list.length ≤ 4096 := by
  unfold pure1 at h
  rw [if_neg h1, if_neg h2] at h
  split at h
  · rename_i h3; simp only [Bool.and_eq_true, decide_eq_true_eq] at h; exact ⟨h3, h⟩
  · cases h
theorem pure1_2 {v : Val} (h : pure1 v = true) (h2 : v.kind = 2) : v.num = 0 ∧ v.bytes.length ≤ 1048576 ∧ v.list.length = 0 := by
  unfold pure1 at h
  rw [if_neg (by omega), if_pos h2] at h
  simp only [Bool.and_eq_true, decide_eq_true_eq] at h; exact h
theorem pure1_1 {v : Val} (h : pure1 v = true) (h2 : v.kind = 1) : (0 ≤ v.num ∧ v.num ≤ 4611686018427387904) ∧ v.bytes.length = 0 ∧ v.list.length = 0 := by
  unfold pure1 at h
  rw [if_pos h2] at h
  simp only [Bool.and_eq_true, decide_eq_true_eq] at h; exact h
mutual
theorem meas_le : ∀ (v : Val) (room deep : Int), (measA v room deep).2 = true → 0 ≤ room ∧ 0 ≤ (measA v room deep).1 ∧ (measA v room deep).1 ≤ room + 1048580
  | .mk k n b l, room, deep, h => by
    unfold measA at h ⊢
    split at h
    · cases h
    · rename_i h0
      rw [if_neg h0]
      simp only [Bool.or_eq_true, Bool.not_eq_true', decide_eq_true_eq, not_or, Bool.not_eq_false] at h0
      obtain ⟨hp, hr, hd⟩ := h0
      split at h
      · rename_i hk
        rw [if_pos hk]
        have := plain_len n
        simp only; omega
      · rename_i hk
        rw [if_neg hk]
        split at h
        · rename_i hk2
          rw [if_pos hk2]
          have := (pure1_2 hp hk2).2.1
          simp only [Val.bytes] at this
          simp only; omega
        · rename_i hk2
          rw [if_neg hk2]
          split at h
          · cases h
          · rename_i hd0
            rw [if_neg hd0]
            have := measL_le l room (deep - 1) 3 (by omega) (by omega) h
            omega
theorem measL_le : ∀ (l : List Val) (room deep acc : Int), 0 ≤ acc → acc ≤ room + 1048580 → (measAL l room deep acc).2 = true → acc ≤ (measAL l room deep acc).1 ∧ (measAL l room deep acc).1 ≤ room + 1048580
  | [], room, deep, acc, h0, h1, h => ⟨Int.le_refl _, h1⟩
  | v :: l, room, deep, acc, h0, h1, h => by
    unfold measAL at h ⊢
    split at h
    · rename_i hv
      rw [if_pos hv]
      have := meas_le v (room - acc) deep hv
      have := measL_le l room deep (acc + (measA v (room - acc) deep).1) (by omega) (by omega) h
      omega
    · cases h
end
end Go.Proofs.YtaajlbbooneiiaaDoor.Avm
set_option linter.unusedVariables false
set_option linter.unusedSimpArgs false
set_option maxRecDepth 10000
namespace Go.Proofs.YtaajlbbooneiiaaDoor.Avm

theorem leN_get : ∀ (s n i : Nat) (h : i < (leN s n).length), (leN s n)[i] = UInt8.ofNat (n / 256 ^ i % 256)
  | 0, n, i, h => by simp [leN] at h
  | s + 1, n, 0, h => by simp [leN]
  | s + 1, n, i + 1, h => by
    simp only [leN, List.getElem_cons_succ]
    rw [leN_get s (n / 256) i (by simpa [leN] using h), Nat.div_div_eq_div_mul, Nat.pow_succ, Nat.mul_comm]
theorem shr8 (m j : Nat) (hj : j ≤ 8) : ((m : Int)).fdiv (2 ^ (min (((8 * j : Nat) : Int)).toNat 64)) = ((m / 256 ^ j : Nat) : Int) := by
  rw [Int.toNat_natCast, Nat.min_eq_left (by omega), Int.fdiv_eq_ediv_of_nonneg _ (by exact_mod_cast Nat.zero_le _)]
  rw [show (256 : Nat) = 2 ^ 8 from rfl, ← Nat.pow_mul]
  norm_cast
theorem b_shr8 {k' : IntKind} (k : IntKind) (m j : Nat) (hj : j ≤ 8) (hk : k.bits = 64) : abin .shr (.int k (m : Int)) (.int k' ((8 * j : Nat) : Int)) = some (.int k ((m / 256 ^ j : Nat) : Int)) := by
  rw [b_shr (by omega), hk, shr8 m j hj]
theorem le_step {j m i : Nat} (hi : i < j) : ((leN j m).take i ++ List.replicate (j - i) 0).set i (UInt8.ofNat (m / 256 ^ i % 256)) = (leN j m).take (i + 1) ++ List.replicate (j - (i + 1)) 0 := by
  have hl := leN_len j m
  rw [List.set_append_right _ _ (by simp; omega), List.take_succ_eq_append_getElem (by omega), leN_get j m i (by omega)]
  simp only [List.length_take, hl, Nat.min_eq_left (Nat.le_of_lt hi), Nat.sub_self, List.append_assoc]
  rw [show j - i = (j - (i + 1)) + 1 by omega, List.replicate_succ]; simp
theorem ok_low {E : Env} (hp : E.prim 60 = none) (hf : E.F 60 = some F60) : OkG E 60 e_low (gd k_low r_low) := by
  refine OkG.code hp hf (fun _ => rfl) fun ⟨n, k⟩ S _ => ?_
  by_cases hq : (1 ≤ k ∧ k ≤ 8 ∧ 0 ≤ n ∧ n ≤ 4611686018427387904 ∧ n.toNat < 256 ^ k.toNat)
  · obtain ⟨h1, h2, h3, h4, h5⟩ := id hq
    have hlow : lowP n k = (leN k.toNat n.toNat, 0) := if_pos hq
    obtain ⟨j, rfl⟩ : ∃ j : Nat, k = j := ⟨k.toNat, by omega⟩
    obtain ⟨m, rfl⟩ : ∃ m : Nat, n = m := ⟨n.toNat, by omega⟩
    simp only [Int.toNat_natCast] at h5 hlow
    have y1 : decide ((j : Int) < 1) = false := decide_eq_false (by omega)
    have y2 : decide ((8 : Int) < j) = false := decide_eq_false (by omega)
    have y3 : decide ((m : Int) < 0) = false := decide_eq_false (by omega)
    have y4 : decide ((4611686018427387904 : Int) < m) = false := decide_eq_false (by omega)
    have w1 : IntKind.i64.wrap (8 * (j : Int)) = ((8 * j : Nat) : Int) := by rw [wrap64 (by omega) (by omega)]; omega
    have w2 : IntKind.u64.wrap ((8 * j : Nat) : Int) = ((8 * j : Nat) : Int) := wrapu64 (by omega) (by omega)
    have b1 := b_shr8 (k' := .u64) .i64 m j (by omega) rfl
    have hz : m / 256 ^ j = 0 := Nat.div_eq_of_lt h5
    have hmk : mkslA S 1 1 [.int .u8 0] (.int .i64 (j : Int)) (.int .i64 (j : Int)) = some (.sl S.length 0 j 1, S ++ [.cells (cl ((leN j m).take 0 ++ List.replicate (j - 0) 0))]) := by
      simp only [mkslA, aop0, aop, ev_l]
      rw [if_pos (by refine ⟨?_, ?_, ?_, ?_⟩ <;> first | trivial | rfl | omega)]
      simp only [Int.toNat_natCast, List.take_zero, List.nil_append, Nat.sub_zero, cl, List.flatMap, List.map_replicate]; rfl
    rw [hz, Int.natCast_zero] at b1
    have fin1 : Conv S (S ++ [.cells (cl (leN j m))]) (.tup [.sl S.length 0 j 1, .int .i64 0]) S (.tup [enc (leN j m), .int .i64 0]) := by
      refine conv_pair (List.prefix_append _ _) (fun i h => by simp [topIds] at h; omega) ?_
      exact rd_own (rest := []) (by rw [get_new0, List.append_nil]; rfl) (leN_len j m).symm rfl
    cases y5 : decide ((j : Int) < 8)
    all_goals
      simp -dsimp only [go_sem, F60, e_low, r_low, hlow, y1, y2, y3, y4, y5, w1, w2, b1, hmk]
      refine Ex.range (n := j) (fun i g T => g 0 = .int .i64 (m : Int) ∧ g 6 = .sl S.length 0 j 1 ∧ T = S ++ [.cells (cl ((leN j m).take i ++ List.replicate (j - i) 0))]) (by decide) (by omega) rfl rfl ⟨rfl, rfl, rfl⟩ ?_ ?_
      · rintro i g T hi gi gn ⟨g0, g6, rfl⟩
        have w3 : IntKind.i64.wrap (8 * (i : Int)) = ((8 * i : Nat) : Int) := by rw [wrap64 (by omega) (by omega)]; omega
        have w4 : IntKind.u64.wrap ((8 * i : Nat) : Int) = ((8 * i : Nat) : Int) := wrapu64 (by omega) (by omega)
        have b2 := b_shr8 (k' := .u64) .i64 m i (by omega) rfl
        have hb : IntKind.u8.wrap ((m / 256 ^ i : Nat) : Int) = ((UInt8.ofNat (m / 256 ^ i % 256)).toNat : Int) := by
          rw [wrapu8, UInt8.toNat_ofNat']; omega
        have hlen : i < ((leN j m).take i ++ List.replicate (j - i) (0 : UInt8)).length := by simp [leN_len]; omega
        have hst : stO (S ++ [.cells (cl ((leN j m).take i ++ List.replicate (j - i) 0))]) S.length 1 (i * 1) (.int .u8 ((UInt8.ofNat (m / 256 ^ i % 256)).toNat : Int)) (.cells (cl ((leN j m).take i ++ List.replicate (j - i) 0)))
            = some (AV.undef, (S ++ [AObj.cells (cl ((leN j m).take i ++ List.replicate (j - i) 0))]).set S.length (.cells (cl ((leN j m).take (i + 1) ++ List.replicate (j - (i + 1)) 0)))) := by
          rw [← le_step hi]
          exact stO_cl1 (k := 0) (a := UInt8.ofNat (m / 256 ^ i % 256)) hlen rfl (by decide) rfl rfl
        rw [set_new0] at hst
        simp -dsimp only [go_sem, gi, gn, g0, g6, w3, w4, b2, hb, ia_slE .i64 hi, hst]
      · rintro g T gi ⟨g0, g6, rfl⟩
        have : (leN j m).take j = leN j m := List.take_of_length_le (by rw [leN_len]; omega)
        rw [this, Nat.sub_self, List.replicate_zero, List.append_nil]
        simp -dsimp only [go_sem, g0, g6, F60, r_low, hlow]
        exact fin1
  · have hlow : lowP n k = ([], 2) := if_neg hq
    have fin2 : Conv S S (.tup [.nilS, .int .i64 2]) S (.tup [enc ([] : List UInt8), .int .i64 2]) := conv_pair List.prefix_rfl (fun i h => by simp [topIds] at h) rfl
    cases y1 : decide (k < 1)
    rotate_left
    · simp -dsimp only [go_sem, F60, e_low, r_low, hlow, y1]
      exact fin2
    cases y2 : decide (8 < k)
    rotate_left
    · simp -dsimp only [go_sem, F60, e_low, r_low, hlow, y1, y2]
      exact fin2
    cases y3 : decide (n < 0)
    rotate_left
    · simp -dsimp only [go_sem, F60, e_low, r_low, hlow, y1, y2, y3]
      exact fin2
    cases y4 : decide (4611686018427387904 < n)
    rotate_left
    · simp -dsimp only [go_sem, F60, e_low, r_low, hlow, y1, y2, y3, y4]
      exact fin2
    simp only [decide_eq_false_iff_not] at y1 y2 y3 y4
    obtain ⟨j, rfl⟩ : ∃ j : Nat, k = j := ⟨k.toNat, by omega⟩
    obtain ⟨m, rfl⟩ : ∃ m : Nat, n = m := ⟨n.toNat, by omega⟩
    have h5 : ¬ m < 256 ^ j := fun h => hq ⟨by omega, by omega, by omega, by omega, by simpa using h⟩
    have hj : j < 8 := by
      refine Nat.lt_of_not_le fun h => h5 ?_
      have : j = 8 := by omega
      subst this
      omega
    have y5 : decide ((j : Int) < 8) = true := decide_eq_true (by omega)
    have y1 : decide ((j : Int) < 1) = false := decide_eq_false y1
    have y2 : decide ((8 : Int) < j) = false := decide_eq_false y2
    have y3 : decide ((m : Int) < 0) = false := decide_eq_false y3
    have y4 : decide ((4611686018427387904 : Int) < m) = false := decide_eq_false y4
    have w1 : IntKind.i64.wrap (8 * (j : Int)) = ((8 * j : Nat) : Int) := by rw [wrap64 (by omega) (by omega)]; omega
    have w2 : IntKind.u64.wrap ((8 * j : Nat) : Int) = ((8 * j : Nat) : Int) := wrapu64 (by omega) (by omega)
    have b1 := b_shr8 (k' := .u64) .i64 m j (by omega) rfl
    have hz : decide (((m / 256 ^ j : Nat) : Int) = 0) = false := decide_eq_false (by
      have := Nat.div_pos (Nat.not_lt.1 h5) (Nat.pow_pos (by decide : 0 < 256)); omega)
    simp -dsimp only [go_sem, F60, e_low, r_low, hlow, y1, y2, y3, y4, y5, w1, w2, b1, hz]
    exact fin2
end Go.Proofs.YtaajlbbooneiiaaDoor.Avm
