/- Walking through abstract code: what must hold ahead so that something holds behind. -/
import Derived.Test.YtmijfhepagobdaaA1
set_option linter.unusedVariables false
set_option linter.unusedSimpArgs false
set_option linter.unusedSectionVars false
namespace Go.Proofs.Ytmijfhepagobdaa.Avm

universe u
/-- a mark that keeps its value from being looked into -/
inductive Dm {α : Sort u} (a : α) : Type | mk

/-- a call comes back with just this -/
def Is (E : Env) (f : Nat) (args : List AV) (S : Store) (v : AV) (S' : Store) : Prop := ∃ N, ∀ n, N ≤ n → run E n f args S = some (v, S')
/-- a call comes back with such -/
def Sp (E : Env) (f : Nat) (args : List AV) (S : Store) (R : AV → Store → Prop) : Prop := ∃ v S', R v S' ∧ Is E f args S v S'
theorem Sp.of {E : Env} {f : Nat} {args : List AV} {S : Store} {R K : AV → Store → Prop} (h : Sp E f args S R) (hk : ∀ v S', R v S' → K v S') : Sp E f args S K :=
  let ⟨v, S', r, i⟩ := h; ⟨v, S', hk v S' r, i⟩
theorem Is.uniq {E : Env} {f : Nat} {args : List AV} {S S1 S2 : Store} {v1 v2 : AV} (h1 : Is E f args S v1 S1) (h2 : Is E f args S v2 S2) : v1 = v2 ∧ S1 = S2 := by
  obtain ⟨N, h⟩ := h1
  obtain ⟨M, k⟩ := h2
  have := h (max N M) (Nat.le_max_left ..)
  rw [k (max N M) (Nat.le_max_right ..)] at this
  cases this; exact ⟨rfl, rfl⟩
theorem Is.sp {E : Env} {f : Nat} {args : List AV} {S : Store} {v : AV} {S' : Store} (h : Is E f args S v S') (K : AV → Store → Prop) : Sp E f args S K = K v S' :=
  propext ⟨fun ⟨_, _, r, i⟩ => by obtain ⟨rfl, rfl⟩ := h.uniq i; exact r, fun k => ⟨v, S', k, h⟩⟩
theorem Is.of {E : Env} {f : Nat} {args : List AV} {S : Store} {v : AV} {S' : Store} (h : Sp E f args S fun v' T => v' = v ∧ T = S') : Is E f args S v S' := by
  obtain ⟨_, _, ⟨rfl, rfl⟩, i⟩ := h; exact i

def SpD (E : Env) (f : Nat) (args : List AV) (S : Store) (K : AV → Store → Prop) (_ : Dm K) : Prop := Sp E f args S K
theorem Is.spD {E : Env} {f : Nat} {args : List AV} {S : Store} {v : AV} {S' : Store} (h : Is E f args S v S') (K : AV → Store → Prop) (d : Dm K) : SpD E f args S K d = K v S' := h.sp K
theorem Sp.ofD {E : Env} {f : Nat} {args : List AV} {S : Store} {R K : AV → Store → Prop} {d : Dm K} (h : Sp E f args S R) (hk : ∀ v S', R v S' → K v S') : SpD E f args S K d := h.of hk
/-- a choice whose branches wait -/
def cnd (t : Bool) (A B : Prop) (_ : Dm A) (_ : Dm B) : Prop := if t = true then A else B
theorem cnd_true (A B : Prop) (a : Dm A) (b : Dm B) : cnd true A B a b = A := rfl
theorem cnd_false (A B : Prop) (a : Dm A) (b : Dm B) : cnd false A B a b = B := by simp [cnd]
theorem cnd_intro {t : Bool} {A B : Prop} {a : Dm A} {b : Dm B} (h1 : t = true → A) (h2 : t = false → B) : cnd t A B a b := by cases t <;> simp [cnd, *]

/-- an operation that is no call -/
def aop0 (S : Store) (e : AX → AV) (op : AOp) : Option (AV × Store) := aop (fun _ _ _ => none) S e op
/-- goes on with what was given -/
def thn (r : Option (AV × Store)) (K : AV → Store → Prop) (_ : Dm K) : Prop := match r with | some (v, S) => K v S | none => False
theorem thn_some (v : AV) (S : Store) (K : AV → Store → Prop) (d : Dm K) : thn (some (v, S)) K d = K v S := rfl
theorem thn_ite {c : Prop} [Decidable c] {a b : Option (AV × Store)} {K : AV → Store → Prop} {d : Dm K} (h : c) (k : thn a K d) : thn (if c then a else b) K d := by rw [if_pos h]; exact k

/-- a choice by a value -/
def byV (x : AV) (b : Bool) (A B : Prop) (p : Dm A) (q : Dm B) : Prop := match x with | .bool t => cnd (t == b) A B p q | .tup _ => B | _ => False
theorem byV_bool (t b : Bool) (A B : Prop) (p : Dm A) (q : Dm B) : byV (.bool t) b A B p q = cnd (t == b) A B p q := rfl
theorem byV_tup (vs : List AV) (b : Bool) (A B : Prop) (p : Dm A) (q : Dm B) : byV (.tup vs) b A B p q = B := rfl
def ifV (x : AV) (A B : Prop) (p : Dm A) (q : Dm B) : Prop := match x with | .bool t => cnd t A B p q | _ => False
theorem ifV_bool (t : Bool) (A B : Prop) (p : Dm A) (q : Dm B) : ifV (.bool t) A B p q = cnd t A B p q := rfl
def callV (E : Env) (x : AV) (args : List AV) (S : Store) (K : AV → Store → Prop) (d : Dm K) : Prop := match x with | .fn f cap => SpD E f (args ++ cap) S K d | _ => False
theorem callV_fn (E : Env) (f : Nat) (cap args : List AV) (S : Store) (K : AV → Store → Prop) (d : Dm K) : callV E (.fn f cap) args S K d = SpD E f (args ++ cap) S K d := rfl
def thnR (r : Option (List AV)) (K : List AV → Prop) (_ : Dm K) : Prop := match r with | some vs => K vs | none => False
theorem thnR_some (vs : List AV) (K : List AV → Prop) (d : Dm K) : thnR (some vs) K d = K vs := rfl

def wpO (E : Env) (op : AOp) (g : Frame) (S : Store) (L : List AV) (K : AV → Store → Prop) (d : Dm K) : Prop :=
  match op with
  | .call f args => SpD E f (evs (ev g L) args) S K d
  | .callv x args => callV E (ev g L x) (evs (ev g L) args) S K d
  | op => thn (aop0 S (ev g L) op) K d
def setD (g : Frame) (d : Option Nat) (v : AV) : Frame := match d with | some t => upd g t v | none => g
def wpG (gd : Option (Nat × Bool)) (L : List AV) (A B : Prop) (p : Dm A) (q : Dm B) : Prop :=
  match gd with
  | none => A
  | some (j, b) => byV (L.getD j .undef) b A B p q
def wpI (E : Env) : List AIns → Frame → Store → List AV → (Q : Frame → Store → List AV → Prop) → Dm Q → Prop
  | [], g, S, L, Q, _ => Q g S L
  | ⟨none, op, gd⟩ :: rest, g, S, L, Q, d => wpG gd L (wpO E op g S L (fun v S' => wpI E rest g S' (L ++ [v]) Q d) .mk) (wpI E rest g S (L ++ [.undef]) Q d) .mk .mk
  | ⟨some t, op, gd⟩ :: rest, g, S, L, Q, d => wpG gd L (wpO E op g S L (fun v S' => wpI E rest (upd g t v) S' (L ++ [v]) Q d) .mk) (wpI E rest (upd g t .undef) S (L ++ [.undef]) Q d) .mk .mk
theorem wpI_cons {E : Env} {i : AIns} {rest : List AIns} {g : Frame} {S : Store} {L : List AV} {Q : Frame → Store → List AV → Prop} {d : Dm Q} (h : wpI E (i :: rest) g S L Q d) :
    wpG i.guard L (wpO E i.op g S L (fun v S' => wpI E rest (setD g i.dst v) S' (L ++ [v]) Q d) .mk) (wpI E rest (setD g i.dst .undef) S (L ++ [.undef]) Q d) .mk .mk := by
  obtain ⟨dst, op, gd⟩ := i
  cases dst <;> exact h

/-- a code comes to such an end -/
def Ex (E : Env) (c : ACode) (g : Frame) (S : Store) (Q : AExit → Frame → Store → Prop) : Prop :=
  ∃ ex g' S', Q ex g' S' ∧ ∃ N, ∀ n m, N ≤ n → N ≤ m → exec (run E m) n c g S = some (ex, g', S')
/-- a region whose loads may float -/
def ExF (E : Env) (ins : List AIns) (fl : List (Nat × Nat)) (g : Frame) (S : Store) (Q : AExit → Frame → Store → Prop) (_ : Dm Q) : Prop :=
  Ex E (.region ins fl) g S Q
def ExL (E : Env) (c : ACode) (g : Frame) (S : Store) (Q : AExit → Frame → Store → Prop) (_ : Dm Q) : Prop := Ex E (.loop c) g S Q

def wpC (E : Env) : ACode → Frame → Store → (Q : AExit → Frame → Store → Prop) → Dm Q → Prop
  | .skip, g, S, Q, _ => Q .normal g S
  | .region ins fl, g, S, Q, d => match fl with
    | [] => wpI E ins g S [] (fun g' S' _ => Q .normal g' S') .mk
    | fl => ExF E ins fl g S Q d
  | .seq a b, g, S, Q, d => wpC E a g S (fun ex g' S' => match ex with | .normal => wpC E b g' S' Q d | ex => Q ex g' S') .mk
  | .cond c a b, g, S, Q, d => ifV (ev g [] c) (wpC E a g S Q d) (wpC E b g S Q d) .mk .mk
  | .block id c, g, S, Q, d => wpC E c g S (fun ex g' S' => match ex with | .exit i => if i = id then Q .normal g' S' else Q (.exit i) g' S' | ex => Q ex g' S') .mk
  | .loop c, g, S, Q, d => ExL E c g S Q d
  | .exit id, g, S, Q, _ => Q (.exit id) g S
  | .ret, g, S, Q, _ => Q .ret g S
  | .fail, _, _, _, _ => False

/-! ### the walk is right -/
theorem aop_of0 {cf : CallF} {S : Store} {e : AX → AV} {op : AOp} (h1 : ∀ f a, op ≠ .call f a) (h2 : ∀ x a, op ≠ .callv x a) : aop cf S e op = aop0 S e op := by
  unfold aop0
  cases op <;> first | rfl | exact absurd rfl (h1 _ _) | exact absurd rfl (h2 _ _)

theorem thn_spec {r : Option (AV × Store)} {K : AV → Store → Prop} {d : Dm K} (h : thn r K d) : ∃ v S', r = some (v, S') ∧ K v S' := by
  unfold thn at h
  split at h
  · exact ⟨_, _, rfl, h⟩
  · exact h.elim

theorem wpO_spec {E : Env} {op : AOp} {g : Frame} {S : Store} {L : List AV} {K : AV → Store → Prop} {d : Dm K} (h : wpO E op g S L K d) : ∃ v S', K v S' ∧ ∃ N, ∀ n, N ≤ n → aop (run E n) S (ev g L) op = some (v, S') := by
  unfold wpO at h
  split at h
  · obtain ⟨v, S', r, N, i⟩ := h
    exact ⟨v, S', r, N, fun n hn => i n hn⟩
  · rename_i x args
    unfold callV at h
    split at h
    · rename_i f cap he
      obtain ⟨v, S', r, N, i⟩ := h
      exact ⟨v, S', r, N, fun n hn => by simp only [aop, he]; exact i n hn⟩
    · exact h.elim
  · rename_i h1 h2
    obtain ⟨v, S', e, k⟩ := thn_spec h
    exact ⟨v, S', k, 0, fun n _ => by rw [aop_of0 (fun f a e => h1 f a e) fun x a e => h2 x a e, e]⟩

theorem wpI_spec {E : Env} : ∀ {ins : List AIns} {g : Frame} {S : Store} {L : List AV} {Q : Frame → Store → List AV → Prop} {d : Dm Q}, wpI E ins g S L Q d → ∃ g' S' L', Q g' S' L' ∧ ∃ N, ∀ n, N ≤ n → ains (run E n) g S L ins = some (g', S', L')
  | [], g, S, L, Q, d, h => ⟨g, S, L, h, 0, fun n _ => rfl⟩
  | i :: ins, g, S, L, Q, d, h => by
    have h := wpI_cons h
    simp only [wpG] at h
    have go : wpO E i.op g S L (fun v S' => wpI E ins (setD g i.dst v) S' (L ++ [v]) Q d) .mk → ∃ g' S' L', Q g' S' L' ∧ ∃ N, ∀ n, N ≤ n → ((aop (run E n) S (ev g L) i.op).bind fun (p : AV × Store) => ains (run E n) (setD g i.dst p.1) p.2 (L ++ [p.1]) ins) = some (g', S', L') := fun h => by
      obtain ⟨v, S1, k, N, hN⟩ := wpO_spec h
      obtain ⟨g', S', L', q, M, hM⟩ := wpI_spec k
      exact ⟨g', S', L', q, max N M, fun n hn => by rw [hN n (by omega)]; exact hM n (by omega)⟩
    split at h
    · rename_i hg
      obtain ⟨g', S', L', q, N, hN⟩ := go h
      exact ⟨g', S', L', q, N, fun n hn => by simp only [ains, hg]; exact hN n hn⟩
    · rename_i j b hg
      unfold byV at h
      split at h
      · rename_i t ht
        unfold cnd at h
        split at h
        · rename_i htb
          have htb : t = b := by simpa using htb
          obtain ⟨g', S', L', q, N, hN⟩ := go h
          exact ⟨g', S', L', q, N, fun n hn => by simp only [ains, hg, ht, htb, if_true]; exact hN n hn⟩
        · rename_i htb
          have htb : ¬ t = b := by simpa using htb
          obtain ⟨g', S', L', q, N, hN⟩ := wpI_spec h
          exact ⟨g', S', L', q, N, fun n hn => by simp only [ains, hg, ht, if_neg htb]; exact hN n hn⟩
      · rename_i vs ht
        obtain ⟨g', S', L', q, N, hN⟩ := wpI_spec h
        exact ⟨g', S', L', q, N, fun n hn => by simp only [ains, hg, ht]; exact hN n hn⟩
      · exact h.elim

theorem wpC_spec {E : Env} : ∀ {c : ACode} {g : Frame} {S : Store} {Q : AExit → Frame → Store → Prop} {d : Dm Q}, wpC E c g S Q d → Ex E c g S Q := by
  intro c
  induction c with
  | skip => intro g S Q d h; exact ⟨_, g, S, h, 0, fun n m _ _ => rfl⟩
  | region ins fl =>
    intro g S Q d h
    cases fl with
    | nil =>
      obtain ⟨g', S', L', q, N, hN⟩ := wpI_spec (show wpI E ins g S [] (fun g' S' _ => Q .normal g' S') .mk from h)
      exact ⟨_, g', S', q, N, fun n m _ hm => by simp only [exec, hN m hm, floats, if_true]⟩
    | cons p fl => exact h
  | seq a b iha ihb =>
    intro g S Q d h
    obtain ⟨ex, g1, S1, q, N, hN⟩ := iha (show wpC E a g S (fun ex g' S' => match ex with | .normal => wpC E b g' S' Q d | ex => Q ex g' S') .mk from h)
    cases ex with
    | normal =>
      obtain ⟨ex2, g2, S2, q2, M, hM⟩ := ihb q
      exact ⟨ex2, g2, S2, q2, max N M, fun n m hn hm => by simp only [exec, hN n m (by omega) (by omega)]; exact hM n m (by omega) (by omega)⟩
    | exit id => exact ⟨_, g1, S1, q, N, fun n m hn hm => by simp only [exec, hN n m hn hm]⟩
    | ret => exact ⟨_, g1, S1, q, N, fun n m hn hm => by simp only [exec, hN n m hn hm]⟩
  | cond c a b iha ihb =>
    intro g S Q d h
    simp only [wpC, ifV] at h
    split at h
    · rename_i t ht
      cases t with
      | true =>
        rw [cnd_true] at h
        obtain ⟨ex, g1, S1, q, N, hN⟩ := iha h
        exact ⟨ex, g1, S1, q, N, fun n m hn hm => by simp only [exec, ht]; exact hN n m hn hm⟩
      | false =>
        rw [cnd_false] at h
        obtain ⟨ex, g1, S1, q, N, hN⟩ := ihb h
        exact ⟨ex, g1, S1, q, N, fun n m hn hm => by simp only [exec, ht]; exact hN n m hn hm⟩
    · exact h.elim
  | block id c ih =>
    intro g S Q d h
    obtain ⟨ex, g1, S1, q, N, hN⟩ := ih (show wpC E c g S (fun ex g' S' => match ex with | .exit i => if i = id then Q .normal g' S' else Q (.exit i) g' S' | ex => Q ex g' S') .mk from h)
    cases ex with
    | normal => exact ⟨_, g1, S1, q, N, fun n m hn hm => by simp only [exec, hN n m hn hm]⟩
    | exit i =>
      by_cases hi : i = id
      · simp only [hi, if_true] at q
        exact ⟨.normal, g1, S1, q, N, fun n m hn hm => by simp only [exec, hN n m hn hm, hi, if_true]⟩
      · simp only [hi, if_false] at q
        exact ⟨.exit i, g1, S1, q, N, fun n m hn hm => by simp only [exec, hN n m hn hm, hi, if_false]⟩
    | ret => exact ⟨_, g1, S1, q, N, fun n m hn hm => by simp only [exec, hN n m hn hm]⟩
  | loop c ih => intro g S Q d h; exact h
  | exit id => intro g S Q d h; exact ⟨_, g, S, h, 0, fun n m _ _ => rfl⟩
  | ret => intro g S Q d h; exact ⟨_, g, S, h, 0, fun n m _ _ => rfl⟩
  | fail => intro g S Q d h; exact h.elim

/-! ### more holds behind -/
theorem wpO_mono {E : Env} {op : AOp} {g : Frame} {S : Store} {L : List AV} {K K' : AV → Store → Prop} {d : Dm K} {d' : Dm K'} (h : wpO E op g S L K d) (hk : ∀ v S, K v S → K' v S) : wpO E op g S L K' d' := by
  unfold wpO at h ⊢
  split at h
  · exact Sp.of h hk
  · unfold callV at h ⊢
    split at h
    · exact Sp.of h hk
    · exact h.elim
  · rename_i h1 h2
    obtain ⟨v, S', e, k⟩ := thn_spec h
    rw [e]; exact hk v S' k
theorem byV_mono {x : AV} {b : Bool} {A B A' B' : Prop} {p : Dm A} {q : Dm B} {p' : Dm A'} {q' : Dm B'} (h : byV x b A B p q) (h1 : A → A') (h2 : B → B') : byV x b A' B' p' q' := by
  unfold byV at h ⊢
  split at h
  · unfold cnd at h ⊢
    split at h
    · rename_i h0; simp only [h0, if_true]; exact h1 h
    · rename_i h0; simp only [h0, if_false]; exact h2 h
  · exact h2 h
  · exact h.elim
theorem ifV_mono {x : AV} {A B A' B' : Prop} {p : Dm A} {q : Dm B} {p' : Dm A'} {q' : Dm B'} (h : ifV x A B p q) (h1 : A → A') (h2 : B → B') : ifV x A' B' p' q' := by
  unfold ifV at h ⊢
  split at h
  · unfold cnd at h ⊢
    split at h
    · rename_i h0; simp only [h0, if_true]; exact h1 h
    · rename_i h0; simp only [h0, if_false]; exact h2 h
  · exact h.elim
theorem wpI_mono {E : Env} : ∀ {ins : List AIns} {g : Frame} {S : Store} {L : List AV} {Q Q' : Frame → Store → List AV → Prop} {d : Dm Q} {d' : Dm Q'}, wpI E ins g S L Q d → (∀ g S L, Q g S L → Q' g S L) → wpI E ins g S L Q' d'
  | [], g, S, L, Q, Q', d, d', h, hk => hk g S L h
  | ⟨none, op, gd⟩ :: ins, g, S, L, Q, Q', d, d', h, hk => by
    simp only [wpI, wpG] at h ⊢
    split at h
    · exact wpO_mono h fun v S' h => wpI_mono h hk
    · exact byV_mono h (fun h => wpO_mono h fun v S' h => wpI_mono h hk) fun h => wpI_mono h hk
  | ⟨some t, op, gd⟩ :: ins, g, S, L, Q, Q', d, d', h, hk => by
    simp only [wpI, wpG] at h ⊢
    split at h
    · exact wpO_mono h fun v S' h => wpI_mono h hk
    · exact byV_mono h (fun h => wpO_mono h fun v S' h => wpI_mono h hk) fun h => wpI_mono h hk
theorem Ex.of {E : Env} {c : ACode} {g : Frame} {S : Store} {Q Q' : AExit → Frame → Store → Prop} (h : Ex E c g S Q) (hk : ∀ e g S, Q e g S → Q' e g S) : Ex E c g S Q' :=
  let ⟨e, g', S', q, r⟩ := h; ⟨e, g', S', hk e g' S' q, r⟩
theorem wpC_mono {E : Env} : ∀ {c : ACode} {g : Frame} {S : Store} {Q Q' : AExit → Frame → Store → Prop} {d : Dm Q} {d' : Dm Q'}, wpC E c g S Q d → (∀ e g S, Q e g S → Q' e g S) → wpC E c g S Q' d' := by
  intro c
  induction c with
  | skip => intro g S Q Q' d d' h hk; exact hk _ _ _ h
  | region ins fl =>
    intro g S Q Q' d d' h hk
    cases fl with
    | nil => exact wpI_mono (show wpI E ins g S [] (fun g' S' _ => Q .normal g' S') .mk from h) fun g S L h => hk _ _ _ h
    | cons p fl => exact Ex.of (show Ex E _ g S Q from h) hk
  | seq a b iha ihb =>
    intro g S Q Q' d d' h hk
    refine iha (show wpC E a g S (fun ex g' S' => match ex with | .normal => wpC E b g' S' Q d | ex => Q ex g' S') .mk from h) fun e g' S' h => ?_
    cases e with
    | normal => exact ihb h hk
    | exit i => exact hk _ _ _ h
    | ret => exact hk _ _ _ h
  | cond c a b iha ihb =>
    intro g S Q Q' d d' h hk
    exact ifV_mono (show ifV (ev g [] c) (wpC E a g S Q d) (wpC E b g S Q d) .mk .mk from h) (fun h => iha h hk) fun h => ihb h hk
  | block id c ih =>
    intro g S Q Q' d d' h hk
    refine ih (show wpC E c g S (fun ex g' S' => match ex with | .exit i => if i = id then Q .normal g' S' else Q (.exit i) g' S' | ex => Q ex g' S') .mk from h) fun e g' S' h => ?_
    cases e with
    | normal => exact hk _ _ _ h
    | exit i =>
      simp only at h ⊢
      by_cases hi : i = id
      · rw [if_pos hi] at h ⊢; exact hk _ _ _ h
      · rw [if_neg hi] at h ⊢; exact hk _ _ _ h
    | ret => exact hk _ _ _ h
  | loop c ih => intro g S Q Q' d d' h hk; exact Ex.of (show Ex E _ g S Q from h) hk
  | exit id => intro g S Q Q' d d' h hk; exact hk _ _ _ h
  | ret => intro g S Q Q' d d' h hk; exact hk _ _ _ h
  | fail => intro g S Q Q' d d' h hk; exact h.elim

/-- a loop, by an invariant and what grows less -/
theorem Ex.loop {E : Env} {c : ACode} {Q : AExit → Frame → Store → Prop} (I : Nat → Frame → Store → Prop)
    (step : ∀ k g S, I k g S → wpC E c g S (fun ex g' S' => match ex with | .normal => ∃ k', k' < k ∧ I k' g' S' | ex => Q ex g' S') .mk) :
    ∀ (k : Nat) (g : Frame) (S : Store), I k g S → ExL E c g S Q .mk := by
  have key : ∀ (k : Nat) (g : Frame) (S : Store), I k g S → ∃ ex g' S', Q ex g' S' ∧ ∃ N, ∀ n m r, N ≤ n → N ≤ m → N ≤ r → loopA (exec (run E m) n c) r g S = some (ex, g', S') := by
    intro k
    induction k using Nat.strongRecOn with
    | ind k ih =>
      intro g S hI
      obtain ⟨ex, g1, S1, q, N, hN⟩ := wpC_spec (step k g S hI)
      cases ex with
      | normal =>
        obtain ⟨k', hk, hI'⟩ := q
        obtain ⟨ex2, g2, S2, q2, M, hM⟩ := ih k' hk g1 S1 hI'
        refine ⟨ex2, g2, S2, q2, max N M + 1, fun n m r hn hm hr => ?_⟩
        cases r with
        | zero => omega
        | succ r => simp only [loopA, hN n m (by omega) (by omega)]; exact hM n m r (by omega) (by omega) (by omega)
      | exit id =>
        refine ⟨.exit id, g1, S1, q, N + 1, fun n m r hn hm hr => ?_⟩
        cases r with
        | zero => omega
        | succ r => simp only [loopA, hN n m (by omega) (by omega)]
      | ret =>
        refine ⟨.ret, g1, S1, q, N + 1, fun n m r hn hm hr => ?_⟩
        cases r with
        | zero => omega
        | succ r => simp only [loopA, hN n m (by omega) (by omega)]
  intro k g S hI
  obtain ⟨ex, g', S', q, N, hN⟩ := key k g S hI
  exact ⟨ex, g', S', q, N, fun n m hn hm => by simp only [exec]; exact hN n m n hn hm hn⟩

/-- what a function gives back -/
def fin (res : List ARes) (R : AV → Store → Prop) : AExit → Frame → Store → Prop
  | .exit _, _, _ => False
  | _, g, S => thnR (resA g S res) (fun vs => R (oneOrTup vs) S) .mk
theorem Sp.intro {E : Env} {f : Nat} {fn : AFunc} {args : List AV} {S : Store} {R : AV → Store → Prop} (hp : E.prim f = none) (hf : E.F f = some fn) (hl : args.length = fn.np)
    (h : wpC E fn.body (initA args) S (fin fn.res R) .mk) : Sp E f args S R := by
  obtain ⟨ex, g, S', q, N, hN⟩ := wpC_spec h
  have : ∃ vs, resA g S' fn.res = some vs ∧ R (oneOrTup vs) S' ∧ ∀ i, ex ≠ .exit i := by
    cases ex with
    | exit i => exact q.elim
    | normal =>
      simp only [fin, thnR] at q
      split at q
      · rename_i vs hv; exact ⟨vs, hv, q, by simp⟩
      · exact q.elim
    | ret =>
      simp only [fin, thnR] at q
      split at q
      · rename_i vs hv; exact ⟨vs, hv, q, by simp⟩
      · exact q.elim
  obtain ⟨vs, hv, hR, hne⟩ := this
  refine ⟨_, S', hR, N + 1, fun n hn => ?_⟩
  cases n with
  | zero => omega
  | succ n =>
    simp only [run, hp, hf, hl, if_true, hN (n + 1) n (by omega) (by omega)]
    cases ex with
    | exit i => exact absurd rfl (hne i)
    | normal => simp only [hv]; rfl
    | ret => simp only [hv]; rfl

end Go.Proofs.Ytmijfhepagobdaa.Avm
