/- Specs: sorting in place, taking out. -/
import Derived.Test.YtmijfhepagobdaaD2
set_option linter.unusedVariables false
set_option linter.unusedSimpArgs false
namespace Go.Proofs.Ytmijfhepagobdaa.Avm

theorem insG_len (x : Mem) : ∀ A B, (insG x A B).length = A.length + B.length + 1
  | [], B => by simp [insG]
  | a :: rA, B => by
    simp only [insG]; split
    · rw [insG_len x rA]; simp; omega
    · simp; omega
theorem isortG_len : ∀ (acc r : List Mem), (isortG acc r).length = acc.length + r.length
  | acc, [] => by simp [isortG]
  | acc, x :: r => by rw [isortG, isortG_len, insG_len]; simp; omega

theorem run_ins {E : Env} (hp : E.prim 72 = none) (hf : E.F 72 = some F72) (h1 : E.prim 56 = some fun _ => p_cmpM) (x0 : Mem) (l0 : List Mem) (id : Nat) (S : Store)
    (hS : S[id]? = some (.cells (cl (x0 :: l0)))) (hl : l0.length ≤ 1000000) : Is E 72 [.sl id 0 (x0 :: l0).length 2, .int .i64 0, .int .i64 (x0 :: l0).length, .fn 56 []] S (.tup []) (S.set id (.cells (cl (isort (x0 :: l0))))) := by
  have hlen := (List.getElem?_eq_some_iff.1 hS).1
  refine Is.of (Sp.intro hp hf rfl ?_)
  have hw1 : IntKind.i64.wrap 1 = 1 := by rw [wrap64] <;> omega
  simp -dsimp only [go_sem, F72, hw1]
  refine Ex.count (n := (x0 :: l0).length) (i0 := 1) (fun i g T => g 0 = .sl id 0 (x0 :: l0).length 2 ∧ g 1 = .int .i64 0 ∧ g 2 = .int .i64 (x0 :: l0).length ∧ g 3 = .fn 56 [] ∧
    ∃ acc r, acc.length = i ∧ T = S.set id (.cells (cl (acc ++ r))) ∧ isortG acc r = isort (x0 :: l0) ∧ i + r.length = (x0 :: l0).length) (by decide) (by simp; omega) rfl (by simp) ⟨rfl, rfl, rfl, rfl, [x0], l0, rfl, ?_, rfl, by simp; omega⟩ ?_ ?_ ?_
  · apply List.ext_getElem?
    intro i
    rw [List.getElem?_set]
    split
    · rename_i h; subst h; rw [hS]; simp [hlen]
    · rfl
  · rintro i g T hi gi ⟨g0, g1, g2, g3, acc, r, ha, rfl, hs, hr⟩
    simp -dsimp only [go_sem, gi, g2]
  · rintro i g T hi gi ⟨g0, g1, g2, g3, acc, r, ha, rfl, hs, hr⟩
    cases r with
    | nil => simp at hr hi; omega
    | cons x r =>
    simp only [List.length_cons] at hr hi
    have hn : (x0 :: l0).length = l0.length + 1 := rfl
    simp -dsimp only [go_sem, gi, g0, g1, g2, g3]
    refine Ex.while (fun k g T => g 0 = .sl id 0 (x0 :: l0).length 2 ∧ g 1 = .int .i64 0 ∧ g 2 = .int .i64 (x0 :: l0).length ∧ g 3 = .fn 56 [] ∧ g 8 = .int .i64 i ∧ g 9 = .int .i64 k ∧
      ∃ A B, A.length = k ∧ T = S.set id (.cells (cl (A ++ x :: (B ++ r)))) ∧ insG x A.reverse B = insG x acc.reverse [] ∧ k + B.length = i) i (by simp -dsimp only [go_sem, gi, g0, g1, g2, g3]; exact ⟨acc, [], ha, rfl, rfl, by simp⟩) ?_
    rintro k g T ⟨g0, g1, g2, g3, g8, g9, A, B, hA, rfl, hi1, hi2⟩
    have hk : k < l0.length + 1 := by omega
    rcases Nat.eq_zero_or_pos k with h0 | h0
    · subst h0
      have hA : A = [] := List.eq_nil_of_length_eq_zero hA
      subst hA
      simp -dsimp only [go_sem, g0, g1, g2, g3, g8, g9, Int.natCast_zero]
      refine ⟨x :: B, r, by simp; omega, rfl, ?_, by omega⟩
      rw [← hs, isortG, ← hi1]; rfl
    · have hlt : (0 : Int) < (k : Int) := by omega
      have hw : IntKind.i64.wrap ((k : Int) - 1) = ((k - 1 : Nat) : Int) := by rw [wrap64 (by omega) (by omega)]; omega
      have hk1 : k - 1 < l0.length + 1 := by omega
      obtain ⟨A', a, rfl⟩ : ∃ A' a, A = A' ++ [a] := by
        rcases List.eq_nil_or_concat A with h | ⟨A', a, h⟩
        · subst h; simp at hA; omega
        · exact ⟨A', a, by simpa using h⟩
      have hA' : A'.length = k - 1 := by simp at hA; omega
      have eL : A' ++ [a] ++ x :: (B ++ r) = A' ++ a :: x :: (B ++ r) := by simp
      rw [eL]
      obtain ⟨L, hL⟩ : ∃ L, L = A' ++ a :: x :: (B ++ r) := ⟨_, rfl⟩
      have hLl : L.length = l0.length + 1 := by rw [hL]; simp; omega
      have hkL : k < L.length := by omega
      have hk1L : k - 1 < L.length := by omega
      have e1 : L[k] = x := by simp only [hL]; rw [List.getElem_append_right (by omega)]; simp [show k - A'.length = 1 by omega]
      have e2 : L[k - 1] = a := by simp only [hL]; rw [List.getElem_append_right (by omega)]; simp [show k - 1 - A'.length = 0 by omega]
      have hsw : (L.set k a).set (k - 1) x = A' ++ x :: a :: (B ++ r) := by
        rw [hL, List.set_append_right _ _ (by omega), List.set_append_right _ _ (by omega), show k - A'.length = 1 by omega, show k - 1 - A'.length = 0 by omega]; rfl
      rw [← hL]
      have hg : ∀ o, (S.set id o)[id]? = some o := fun o => by rw [List.getElem?_set_self hlen]
      simp -dsimp only [go_sem, g0, g1, g2, g3, g8, g9, hlt, hw, ia_slE .i64 hk, ia_slE .i64 hk1, hg, ldO_cl hkL, ldO_cl hk1L, e1, e2, x_cmpM h1]
      have hst : ∀ o, stO (S.set id o) id 2 (k * 2) (.agg [.str a.name, .int .i64 a.role]) (.cells (cl L)) = some (.undef, S.set id (.cells (cl (L.set k a)))) := fun o => by
        have := stO_cl (S := S.set id o) (id := id) (a := a) hkL (show 2 = Rec.sz Mem from rfl) (show k * 2 = k * Rec.sz Mem from rfl)
        rw [List.set_set] at this; exact this
      have hst2 : ∀ o, stO (S.set id o) id 2 ((k - 1) * 2) (.agg [.str x.name, .int .i64 x.role]) (.cells (cl (L.set k a))) = some (.undef, S.set id (.cells (cl ((L.set k a).set (k - 1) x)))) := fun o => by
        have := stO_cl (S := S.set id o) (id := id) (l := L.set k a) (a := x) (j := k - 1) (by simpa using hk1L) (show 2 = Rec.sz Mem from rfl) (show (k - 1) * 2 = (k - 1) * Rec.sz Mem from rfl)
        rw [List.set_set] at this; exact this
      have hc : decide (cmpS x.name a.name < 0) = Op.bytesLess x.name a.name := by
        unfold cmpS
        cases Op.bytesLess x.name a.name with
        | true => rfl
        | false => simp only [Bool.false_eq_true, if_false]; split <;> rfl
      simp -dsimp only [go_sem, hc, F72]
      refine cnd_intro (fun h => ?_) (fun h => ?_)
      · simp -dsimp only [go_sem, g0, g1, g2, g3, g8, g9, hw, ia_slE .i64 hk, ia_slE .i64 hk1, hg, ldO_cl hkL, ldO_cl hk1L, e1, e2, hst, hst2, hsw]
        refine ⟨k - 1, by omega, rfl, A', a :: B, hA', rfl, ?_, by simp; omega⟩
        rw [← hi1, List.reverse_append, List.reverse_singleton, List.singleton_append]
        simp only [insG, h, if_true]
      · simp -dsimp only [go_sem, g0, g1, g2, g3, g8, g9]
        refine ⟨A' ++ a :: x :: B, r, by simp; omega, by rw [hL]; simp, ?_, by omega⟩
        rw [← hs, isortG, ← hi1, List.reverse_append, List.reverse_singleton, List.singleton_append]
        simp only [insG, h]
        simp
  · rintro g T gi ⟨g0, g1, g2, g3, acc, r, ha, rfl, hs, hr⟩
    simp -dsimp only [go_sem, F72]
    have : r = [] := List.eq_nil_of_length_eq_zero (by omega)
    subst this
    simp only [isortG] at hs
    rw [hs]; simp

theorem run_pdq {E : Env} (hp : E.prim 66 = none) (hf : E.F 66 = some F66) (hp2 : E.prim 72 = none) (hf2 : E.F 72 = some F72) (h1 : E.prim 56 = some fun _ => p_cmpM) (x0 : Mem) (l0 : List Mem) (id : Nat) (S : Store)
    (hS : S[id]? = some (.cells (cl (x0 :: l0)))) (hl : l0.length ≤ 11) (v : AV) : Is E 66 [.sl id 0 (l0.length + 1) 2, .int .i64 0, .int .i64 ((l0.length + 1 : Nat) : Int), v, .fn 56 []] S (.tup []) (S.set id (.cells (cl (isort (x0 :: l0))))) := by
  refine Is.of (Sp.intro hp hf rfl ?_)
  have hw : IntKind.i64.wrap (((l0.length + 1 : Nat) : Int) - 0) = ((l0.length + 1 : Nat) : Int) := by rw [wrap64] <;> omega
  have h12 : ((l0.length + 1 : Nat) : Int) ≤ 12 := by omega
  simp -dsimp only [go_sem, F66]
  refine Ex.while (fun k g T => T = S ∧ g 0 = .sl id 0 (l0.length + 1) 2 ∧ g 1 = .int .i64 0 ∧ g 2 = .int .i64 ((l0.length + 1 : Nat) : Int) ∧ g 4 = .fn 56 []) 0 ⟨rfl, rfl, rfl, rfl, rfl⟩ ?_
  rintro k g T ⟨rfl, g0, g1, g2, g4⟩
  have hi := run_ins hp2 hf2 h1 x0 l0 id T hS (by omega)
  simp only [List.length_cons] at hi
  simp -dsimp only [go_sem, g0, g1, g2, g4, hw, h12, hi.spD, F66]

set_option maxRecDepth 100000 in
theorem K_len : K81_0.length = 256 := rfl
theorem run_len {E : Env} (hp : E.prim 67 = none) (hf : E.F 67 = some F67) (hp1 : E.prim 81 = none) (hf1 : E.F 81 = some F81) (n : Nat) (hn : n < 256) (S : Store) : ∃ v, Is E 67 [.int .u64 n] S v S := by
  have key : Sp E 81 [.int .u64 n] S fun v T => T = S := by
    refine Sp.intro hp1 hf1 rfl ?_
    have c1 : ¬ ((4294967296 : Int) ≤ n) := by omega
    have c2 : ¬ ((65536 : Int) ≤ n) := by omega
    have c3 : ¬ ((256 : Int) ≤ n) := by omega
    have hw : IntKind.u8.wrap (n : Int) = n := by rw [wrapu8]; omega
    have hl := K_len
    have hg := sidx_at .u8 (List.getElem?_eq_getElem (show n < K81_0.length by omega))
    simp -dsimp only [go_sem, F81, c1, c2, c3, hw, hg]
  obtain ⟨v, T, rfl, hi⟩ := key
  refine ⟨v, Is.of (Sp.intro hp hf rfl ?_)⟩
  simp -dsimp only [go_sem, F67, hi.spD]

theorem run_sort {E : Env} (hp : E.prim 55 = none) (hf : E.F 55 = some F55) (hp1 : E.prim 66 = none) (hf1 : E.F 66 = some F66) (hp2 : E.prim 72 = none) (hf2 : E.F 72 = some F72)
    (hL : ∀ n : Nat, n < 256 → ∀ S, ∃ v, Is E 67 [.int .u64 n] S v S) (h1 : E.prim 56 = some fun _ => p_cmpM) (x0 : Mem) (l0 : List Mem) (id : Nat) (S : Store)
    (hS : S[id]? = some (.cells (cl (x0 :: l0)))) (hl : l0.length ≤ 11) : Is E 55 [.sl id 0 (l0.length + 1) 2, .fn 56 []] S (.tup []) (S.set id (.cells (cl (isort (x0 :: l0))))) := by
  refine Is.of (Sp.intro hp hf rfl ?_)
  obtain ⟨v, hv⟩ := hL (l0.length + 1) (by omega) S
  have hw : IntKind.u64.wrap ((l0.length + 1 : Nat) : Int) = ((l0.length + 1 : Nat) : Int) := by rw [wrapu64] <;> omega
  simp -dsimp only [go_sem, F55, hw, hv.spD, (run_pdq hp1 hf1 hp2 hf2 h1 x0 l0 id S hS hl v).spD]
end Go.Proofs.Ytmijfhepagobdaa.Avm
