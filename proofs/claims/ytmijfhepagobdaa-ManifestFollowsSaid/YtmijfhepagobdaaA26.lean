/- Regions whose loads may come up early or late. -/
import Derived.Test.YtmijfhepagobdaaA25
set_option linter.unusedVariables false
set_option linter.unusedSimpArgs false
set_option linter.unusedSectionVars false
namespace Go.Proofs.Ytmijfhepagobdaa.Avm

abbrev Trc := List (Frame × Store)
def wpT (E : Env) : List AIns → Frame → Store → List AV → Trc → (Q : Frame → Store → List AV → Trc → Prop) → Dm Q → Prop
  | [], g, S, L, R, Q, _ => Q g S L (R ++ [(g, S)])
  | i :: rest, g, S, L, R, Q, d => wpG i.guard L (wpO E i.op g S L (fun v S' => wpT E rest (setD g i.dst v) S' (L ++ [v]) (R ++ [(g, S)]) Q d) .mk) (wpT E rest (setD g i.dst .undef) S (L ++ [.undef]) (R ++ [(g, S)]) Q d) .mk .mk

/-- may a load come up on the other side of an event? -/
def flOne (ins : List AIns) (L : List AV) (R : Trc) (i j : Nat) : Prop :=
  match ins[i]?, R[i]?, R[if i < j then j + 1 else j]? with
  | some o, some (gi, _), some (_, Sj) => wantA o (L.take i) = some false ∨ ∃ T, aop0 Sj (ev gi (L.take i)) o.op = some (L.getD i .undef, T)
  | _, _, _ => False
def flAll (ins : List AIns) (L : List AV) (R : Trc) : List (Nat × Nat) → Prop
  | [] => True
  | (i, j) :: rest => flOne ins L R i j ∧ flAll ins L R rest

theorem wpT_spec {E : Env} : ∀ {ins : List AIns} {g : Frame} {S : Store} {L : List AV} {R : Trc} {Q : Frame → Store → List AV → Trc → Prop} {d : Dm Q}, wpT E ins g S L R Q d →
    ∃ g' S' L' R', Q g' S' L' R' ∧ (∃ M, L' = L ++ M ∧ M.length = ins.length) ∧ (∃ M, R' = R ++ M ∧ M.length = ins.length + 1) ∧ ∃ N, ∀ n, N ≤ n → ains (run E n) g S L ins = some (g', S', L') ∧
      ∀ k, k ≤ ins.length → ∃ gk Sk, ains (run E n) g S L (ins.take k) = some (gk, Sk, L'.take (L.length + k)) ∧ R'[R.length + k]? = some (gk, Sk)
  | [], g, S, L, R, Q, d, h => ⟨g, S, L, R ++ [(g, S)], h, ⟨[], by simp⟩, ⟨_, rfl, by simp⟩, 0, fun n _ => ⟨rfl, fun k hk => by
      simp at hk; subst hk; exact ⟨g, S, by simp [ains], by simp⟩⟩⟩
  | i :: ins, g, S, L, R, Q, d, h => by
    simp only [wpT, wpG] at h
    have fin : ∀ (v : AV) (S1 : Store), wpT E ins (setD g i.dst v) S1 (L ++ [v]) (R ++ [(g, S)]) Q d → (∃ N, ∀ n, N ≤ n → ∀ rest, ains (run E n) g S L (i :: rest) = ains (run E n) (setD g i.dst v) S1 (L ++ [v]) rest) →
        ∃ g' S' L' R', Q g' S' L' R' ∧ (∃ M, L' = L ++ M ∧ M.length = (i :: ins).length) ∧ (∃ M, R' = R ++ M ∧ M.length = (i :: ins).length + 1) ∧ ∃ N, ∀ n, N ≤ n → ains (run E n) g S L (i :: ins) = some (g', S', L') ∧
          ∀ k, k ≤ (i :: ins).length → ∃ gk Sk, ains (run E n) g S L ((i :: ins).take k) = some (gk, Sk, L'.take (L.length + k)) ∧ R'[R.length + k]? = some (gk, Sk) := fun v S1 hw ⟨N, hN⟩ => by
      obtain ⟨g', S', L', R', q, ⟨M, hM, hMl⟩, ⟨M2, hR, hRl⟩, N2, hN2⟩ := wpT_spec hw
      refine ⟨g', S', L', R', q, ⟨v :: M, by rw [hM]; simp, by simp [hMl]⟩, ⟨(g, S) :: M2, by rw [hR]; simp, by simp [hRl]⟩, max N N2, fun n hn => ⟨by rw [hN n (by omega)]; exact (hN2 n (by omega)).1, fun k hk => ?_⟩⟩
      cases k with
      | zero => exact ⟨g, S, by rw [hM]; simp [ains], by rw [hR]; simp⟩
      | succ k =>
        obtain ⟨gk, Sk, h1, h2⟩ := (hN2 n (by omega)).2 k (by simpa using hk)
        refine ⟨gk, Sk, ?_, ?_⟩
        · rw [List.take_succ_cons, hN n (by omega), h1]
          simp only [List.length_append, List.length_singleton]
          rw [show L.length + 1 + k = L.length + (k + 1) by omega]
        · simp only [List.length_append, List.length_singleton] at h2
          rw [show R.length + (k + 1) = R.length + 1 + k by omega]; exact h2
    have go : ∀ rest n v S1, aop (run E n) S (ev g L) i.op = some (v, S1) → ((aop (run E n) S (ev g L) i.op).bind fun (p : AV × Store) => ains (run E n) (setD g i.dst p.1) p.2 (L ++ [p.1]) rest) = ains (run E n) (setD g i.dst v) S1 (L ++ [v]) rest := fun rest n v S1 h => by rw [h]; rfl
    split at h
    · rename_i hg
      obtain ⟨v, S1, k, N, hN⟩ := wpO_spec h
      exact fin v S1 k ⟨N, fun n hn rest => by simp only [ains, hg]; exact go rest n v S1 (hN n hn)⟩
    · rename_i j b hg
      unfold byV at h
      split at h
      · rename_i t ht
        unfold cnd at h
        split at h
        · rename_i htb
          have htb : t = b := by simpa using htb
          obtain ⟨v, S1, k, N, hN⟩ := wpO_spec h
          exact fin v S1 k ⟨N, fun n hn rest => by simp only [ains, hg, ht, htb, if_true]; exact go rest n v S1 (hN n hn)⟩
        · rename_i htb
          have htb : ¬ t = b := by simpa using htb
          exact fin _ _ h ⟨0, fun n hn rest => by simp only [ains, hg, ht, if_neg htb]; rfl⟩
      · rename_i vs ht
        exact fin _ _ h ⟨0, fun n hn rest => by simp only [ains, hg, ht]; rfl⟩
      · exact h.elim

theorem isRead_aop0 {cf : CallF} {S : Store} {e : AX → AV} {op : AOp} {r : AV × Store} (h : aop0 S e op = some r) : aop cf S e op = some r := by
  unfold aop0 at h
  cases op <;> first | exact h | (simp only [aop] at h; first | cases h | (split at h <;> cases h))

theorem flAll_floats {cf : CallF} {g : Frame} {S : Store} {ins : List AIns} {L : List AV} {R : Trc} (hL : L.length = ins.length) (hR : R.length = ins.length + 1)
    (hk : ∀ k, k ≤ ins.length → ∃ gk Sk, ains cf g S [] (ins.take k) = some (gk, Sk, L.take k) ∧ R[k]? = some (gk, Sk)) : ∀ {fl : List (Nat × Nat)}, flAll ins L R fl → floats cf g S ins fl = true
  | [], _ => rfl
  | (i, j) :: fl, h => by
    obtain ⟨h1, h2⟩ := h
    simp only [floats, Bool.and_eq_true]
    refine ⟨?_, flAll_floats hL hR hk h2⟩
    unfold flOne at h1
    split at h1
    · rename_i o gi Si gj Sj ho hi hj
      have hil : i < ins.length := (List.getElem?_eq_some_iff.1 ho).1
      obtain ⟨gi', Si', a1, a2⟩ := hk i (by omega)
      rw [hi] at a2; cases a2
      obtain ⟨gi1, Si1, c1, c2⟩ := hk (i + 1) (by omega)
      have hjl : (if i < j then j + 1 else j) ≤ ins.length := by
        have := (List.getElem?_eq_some_iff.1 hj).1; omega
      obtain ⟨gj', Sj', b1, b2⟩ := hk _ hjl
      rw [hj] at b2; cases b2
      simp only [ho, storeAt, a1, b1, c1]
      rcases h1 with h1 | ⟨T, h1⟩
      · rw [if_pos h1]
      · split
        · rfl
        · rw [isRead_aop0 h1]
          have : (L.take (i + 1)).getD i AV.undef = L.getD i .undef := by
            rw [List.getD_eq_getElem?_getD, List.getD_eq_getElem?_getD, List.getElem?_take, if_pos (by omega)]
          simp only [this, AV.beq_refl]
    · exact h1.elim

theorem ExF.intro {E : Env} {ins : List AIns} {fl : List (Nat × Nat)} {g : Frame} {S : Store} {Q : AExit → Frame → Store → Prop} {q : Dm Q}
    (h : wpT E ins g S [] [] (fun g' S' L R => Q .normal g' S' ∧ flAll ins L R fl) .mk) : ExF E ins fl g S Q q := by
  obtain ⟨g', S', L, R, ⟨h1, h2⟩, ⟨M, hM, hMl⟩, ⟨M2, hR, hRl⟩, N, hN⟩ := wpT_spec h
  refine ⟨.normal, g', S', h1, N, fun n m hn hm => ?_⟩
  obtain ⟨k1, k2⟩ := hN m hm
  simp only [exec, k1]
  rw [flAll_floats (by rw [hM]; simpa using hMl) (by rw [hR]; simpa using hRl) (fun k hk => by simpa using k2 k hk) h2]
  rfl

section
variable {E : Env} {g : Frame} {S : Store} {L : List AV} {R : Trc} {Q : Frame → Store → List AV → Trc → Prop} {r : Dm Q} {rest : List AIns} {op : AOp} {t : Nat}
def insT (E : Env) (rest : List AIns) (g g0 : Frame) (S0 : Store) (L : List AV) (R : Trc) (Q : Frame → Store → List AV → Trc → Prop) (r : Dm Q) : AV → Store → Prop := fun v S' => wpT E rest g S' (L ++ [v]) (R ++ [(g0, S0)]) Q r
def insTt (E : Env) (rest : List AIns) (g : Frame) (t : Nat) (S0 : Store) (L : List AV) (R : Trc) (Q : Frame → Store → List AV → Trc → Prop) (r : Dm Q) : AV → Store → Prop := fun v S' => wpT E rest (upd g t v) S' (L ++ [v]) (R ++ [(g, S0)]) Q r
theorem insT_eq (g0 : Frame) (S0 : Store) (v : AV) : insT E rest g g0 S0 L R Q r v S = wpT E rest g S (L ++ [v]) (R ++ [(g0, S0)]) Q r := propext ⟨fun h => h, fun h => h⟩
theorem insTt_eq (S0 : Store) (v : AV) : insTt E rest g t S0 L R Q r v S = wpT E rest (upd g t v) S (L ++ [v]) (R ++ [(g, S0)]) Q r := propext ⟨fun h => h, fun h => h⟩
theorem t_nil : wpT E [] g S L R Q r = Q g S L (R ++ [(g, S)]) := propext ⟨fun h => h, fun h => h⟩
theorem t_nn : wpT E (⟨none, op, none⟩ :: rest) g S L R Q r = wpO E op g S L (insT E rest g g S L R Q r) .mk := propext ⟨fun h => h, fun h => h⟩
theorem t_sn : wpT E (⟨some t, op, none⟩ :: rest) g S L R Q r = wpO E op g S L (insTt E rest g t S L R Q r) .mk := propext ⟨fun h => h, fun h => h⟩
theorem t_ng (j : Nat) (b : Bool) : wpT E (⟨none, op, some (j, b)⟩ :: rest) g S L R Q r = byV (L.getD j .undef) b (wpO E op g S L (insT E rest g g S L R Q r) .mk) (wpT E rest g S (L ++ [.undef]) (R ++ [(g, S)]) Q r) .mk .mk := propext ⟨fun h => h, fun h => h⟩
theorem t_sg (j : Nat) (b : Bool) : wpT E (⟨some t, op, some (j, b)⟩ :: rest) g S L R Q r = byV (L.getD j .undef) b (wpO E op g S L (insTt E rest g t S L R Q r) .mk) (wpT E rest (upd g t .undef) S (L ++ [.undef]) (R ++ [(g, S)]) Q r) .mk .mk := propext ⟨fun h => h, fun h => h⟩
end
theorem fl_nil (ins : List AIns) (L : List AV) (R : Trc) : flAll ins L R [] = True := rfl
theorem fl_cons (ins : List AIns) (L : List AV) (R : Trc) (i j : Nat) (fl : List (Nat × Nat)) : flAll ins L R ((i, j) :: fl) = (flOne ins L R i j ∧ flAll ins L R fl) := rfl
/-- a load on the other side -/
def flLd (gd : Option (Nat × Bool)) (L : List AV) (S : Store) (b : Bool) (n : Nat) (x v : AV) : Prop := wantA ⟨none, .fail, gd⟩ L = some false ∨ loadA S b n x = some v
theorem fl_ld {ins : List AIns} {L : List AV} {R : Trc} {i j : Nat} {dst : Option Nat} {b : Bool} {n : Nat} {x : AX} {gd : Option (Nat × Bool)} {gi gj : Frame} {Si Sj : Store} {k : Nat}
    (hk : (if i < j then j + 1 else j) = k) (h1 : ins[i]? = some ⟨dst, .load b n x, gd⟩) (h2 : R[i]? = some (gi, Si)) (h3 : R[k]? = some (gj, Sj)) (h : flLd gd (L.take i) Sj b n (ev gi (L.take i) x) (L.getD i .undef)) : flOne ins L R i j := by
  unfold flOne
  rw [hk, h1, h2, h3]
  rcases h with h | h
  · exact .inl h
  · exact .inr ⟨Sj, by simp [aop0, aop, h]⟩
theorem flLd_n (L : List AV) (S : Store) (b : Bool) (n : Nat) (x v : AV) (h : loadA S b n x = some v) : flLd none L S b n x v := .inr h
theorem flLd_g (L : List AV) (S : Store) (b : Bool) (n : Nat) (x v : AV) (gd : Option (Nat × Bool)) (h : loadA S b n x = some v) : flLd gd L S b n x v := .inr h
theorem flLd_s (L : List AV) (S : Store) (b : Bool) (n : Nat) (x v : AV) (j : Nat) (c : Bool) (h : L.getD j .undef = .bool (!c)) : flLd (some (j, c)) L S b n x v := .inl (by simp only [wantA, h]; cases c <;> rfl)
attribute [go_sem] insT_eq insTt_eq t_nil t_nn t_sn t_ng t_sg fl_nil fl_cons

/-- the end of a round -/
def rndJ (b0 b1 vi i : Nat) (I : Nat → Frame → Store → Prop) (Q : AExit → Frame → Store → Prop) : AExit → Frame → Store → Prop := fun ex g T => match ex with
  | .normal => g vi = .int .i64 i ∧ I (i + 1) (upd g vi (.int .i64 ((i + 1 : Nat) : Int))) T
  | .exit b => if b = b1 then g vi = .int .i64 i ∧ I (i + 1) (upd g vi (.int .i64 ((i + 1 : Nat) : Int))) T else if b = b0 then Q .normal g T else Q (.exit b) g T
  | .ret => Q .ret g T
section
variable {b0 b1 vi i : Nat} {I : Nat → Frame → Store → Prop} {Q : AExit → Frame → Store → Prop} {g : Frame} {T : Store}
theorem rnj_n : rndJ b0 b1 vi i I Q .normal g T = (g vi = .int .i64 i ∧ I (i + 1) (upd g vi (.int .i64 ((i + 1 : Nat) : Int))) T) := propext ⟨fun h => h, fun h => h⟩
theorem rnj_r : rndJ b0 b1 vi i I Q .ret g T = Q .ret g T := propext ⟨fun h => h, fun h => h⟩
theorem rnj_e (b : Nat) : rndJ b0 b1 vi i I Q (.exit b) g T = if b = b1 then (g vi = .int .i64 i ∧ I (i + 1) (upd g vi (.int .i64 ((i + 1 : Nat) : Int))) T) else if b = b0 then Q .normal g T else Q (.exit b) g T := propext ⟨fun h => h, fun h => h⟩
attribute [go_sem] rnj_n rnj_r rnj_e
end

/-- the code of 'for i := ..; i < n; i++' -/
@[reducible] def cntC (b0 b1 vi vc : Nat) (cr : List AIns) (body : ACode) : ACode :=
  .block b0 (.loop (.seq (.seq (.region cr []) (.cond (.v vc) .skip (.exit b0))) (.seq (.block b1 body) (.region [⟨none, .mv (.v vi), none⟩, ⟨none, .bin .add (.l 0) (.k (.int .i64 1)), none⟩, ⟨some vi, .mv (.l 1), none⟩] []))))

theorem Ex.count {E : Env} {b0 b1 vi vc : Nat} {cr : List AIns} {body : ACode} {g : Frame} {S : Store} {Q : AExit → Frame → Store → Prop} {q : Dm Q} {n : Nat} (I : Nat → Frame → Store → Prop) {i0 : Nat}
    (hv : vi ≠ vc ∧ b0 ≠ b1) (hn : n ≤ 9223372036854775807) (hi : g vi = .int .i64 i0) (hi0 : i0 ≤ n) (h0 : I i0 g S)
    (cond : ∀ i g T, i ≤ n → g vi = .int .i64 (i : Int) → I i g T → wpI E cr g T [] (fun g' T' _ => g' = upd g vc (.bool (decide ((i : Int) < (n : Int)))) ∧ T' = T) .mk)
    (step : ∀ i g T, i < n → g vi = .int .i64 (i : Int) → I i g T → wpC E body (upd g vc (.bool true)) T (rndJ b0 b1 vi i I Q) .mk)
    (done : ∀ g T, g vi = .int .i64 n → I n g T → Q .normal (upd g vc (.bool false)) T) : wpC E (cntC b0 b1 vi vc cr body) g S Q q := by
  obtain ⟨h1, h4⟩ := hv
  refine Ex.while (fun k g T => ∃ i : Nat, k = n - i ∧ i ≤ n ∧ g vi = .int .i64 i ∧ I i g T) (n - i0) ⟨i0, rfl, hi0, hi, h0⟩ ?_
  rintro k g T ⟨i, rfl, hin, hgi, hI⟩
  rw [w_seq, w_seq, w_reg]
  refine wpI_mono (cond i g T hin hgi hI) fun g' T' _ hh => ?_
  obtain ⟨rfl, rfl⟩ := hh
  rw [seqK_n, w_cond]
  by_cases hlt : i < n
  · have e : decide ((i : Int) < (n : Int)) = true := by simp [hlt]
    simp only [e, ev_v, upd_apply, if_true, ifV_bool', cnd_true', w_skip, seqK_n]
    rw [w_seq, w_block]
    have hs := step i g T' hlt hgi hI
    have key : ∀ g' T', (g' vi = .int .i64 i ∧ I (i + 1) (upd g' vi (.int .i64 ((i + 1 : Nat) : Int))) T') →
        wpC E (.region [⟨none, .mv (.v vi), none⟩, ⟨none, .bin .add (.l 0) (.k (.int .i64 1)), none⟩, ⟨some vi, .mv (.l 1), none⟩] []) g' T' (fun ex g'' S' => match ex with | .normal => ∃ k', k' < n - i ∧ ∃ j : Nat, k' = n - j ∧ j ≤ n ∧ g'' vi = .int .i64 j ∧ I j g'' S' | ex => blkK b0 Q ex g'' S') .mk := fun g' T' ⟨a1, a3⟩ => by
      rw [w_reg, i_nn, o_mv, insK_eq, i_nn, o_bin]
      simp only [ev_v, ev_k, ev_l, List.nil_append, g0, a1, b_add, thnV_some, insK_eq]
      rw [i_sn, o_mv]
      simp only [List.cons_append, List.nil_append, ev_l, g0, gS, insKt_eq, i_nil]
      rw [wrap64 (by omega) (by omega)]
      have e1 : ((i : Int) + 1) = ((i + 1 : Nat) : Int) := by omega
      rw [e1]
      exact ⟨_, (by omega : n - (i + 1) < n - i), i + 1, rfl, by omega, by simp [upd_apply], a3⟩
    refine wpC_mono hs fun ex g' T' hk => ?_
    cases ex with
    | normal => rw [blkK_n, seqK_n]; exact key g' T' hk
    | exit b =>
      rw [rnj_e] at hk
      rw [blkK_e]
      by_cases hb : b = b1
      · rw [if_pos hb] at hk ⊢; rw [seqK_n]; exact key g' T' hk
      · rw [if_neg hb] at hk ⊢; rw [seqK_e]
        simp only [blkK_e]
        by_cases hb0 : b = b0
        · rw [if_pos hb0] at hk ⊢; exact hk
        · rw [if_neg hb0] at hk ⊢; exact hk
    | ret => rw [blkK_r, seqK_r]; exact hk
  · have e : decide ((i : Int) < (n : Int)) = false := by simp; omega
    simp only [e, ev_v, upd_apply, if_true, ifV_bool', cnd_false', w_exit, seqK_e]
    have : i = n := by omega
    subst this
    rw [blkK_e, if_pos rfl]
    exact done g T' hgi hI

end Go.Proofs.Ytmijfhepagobdaa.Avm
