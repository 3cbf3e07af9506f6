/- Specs: rows turned round, numbers of bytes. Specs: values as bytes. Specs: values written. Specs: values read. Specs: a value read, whatever it is. Plain laws of the codec: what is written is read, what is read is what was written. -/
import Derived.Test.YtaajlbbooneiiaaDoorZ10
set_option linter.unusedVariables false
set_option linter.unusedSimpArgs false
set_option maxRecDepth 10000
namespace Go.Proofs.YtaajlbbooneiiaaDoor.Avm

theorem run_rev {E : Env} (hp : E.prim 76 = none) (hf : E.F 76 = some F76) (l : List UInt8) (h0 : l.length ≠ 0) (hl : l.length ≤ 1000000) (id : Nat) (S : Store) (hS : S[id]? = some (.cells (cl l))) :
    Is E 76 [.sl id 0 l.length 1] S (.tup []) (S.set id (.cells (cl l.reverse))) := by
  refine Is.of (Sp.intro hp hf rfl ?_)
  have w1 : IntKind.i64.wrap ((l.length : Int) - 1) = ((l.length - 1 : Nat) : Int) := by rw [wrap64 (by omega) (by omega)]; omega
  simp -dsimp only [go_sem, F76, w1]
  have hsid := (List.getElem?_eq_some_iff.1 hS).1
  refine Ex.while (fun k g T => ∃ (i j : Nat) (m : List UInt8), k = l.length - i ∧ i + j + 1 = l.length ∧ g 0 = .sl id 0 l.length 1 ∧ g 2 = .int .i64 i ∧ g 3 = .int .i64 j ∧ T = S.set id (.cells (cl m)) ∧ m.length = l.length ∧
    ∀ t, t < l.length → m[t]? = if t < i ∨ j < t then l[l.length - 1 - t]? else l[t]?) l.length ⟨0, l.length - 1, l, by omega, by omega, rfl, rfl, rfl, ?_, rfl, fun t ht => ?_⟩ ?_
  · obtain ⟨hh, e⟩ := List.getElem?_eq_some_iff.1 hS
    rw [← e]; exact (List.set_getElem_self hh).symm
  · rw [if_neg (by omega)]
  · rintro k g T ⟨i, j, m, rfl, hij, g0, g2, g3, rfl, hm, hI⟩
    simp -dsimp only [go_sem, g0, g2, g3]
    refine cnd_intro (fun h => ?_) (fun h => ?_) <;> simp only [decide_eq_true_eq, decide_eq_false_iff_not] at h
    · have hlt : i < j := by omega
      have hi : i < l.length := by omega
      have hj : j < l.length := by omega
      have him : i < m.length := by omega
      have hjm : j < m.length := by omega
      have hg : ∀ o, (S.set id o)[id]? = some o := fun o => List.getElem?_set_self hsid
      have hj1 : ∀ (l : List UInt8) (k : Nat) (h : k < l.length), ldO false 1 (k * 1) (.cells (cl l)) = some (.int .u8 l[k].toNat) := fun l k h => ldO_cl1 (k := 0) h rfl rfl
      have hst : ∀ (o : AObj) (l : List UInt8) (k : Nat) (b : UInt8) (h : k < l.length), stO (S.set id o) id 1 (k * 1) (.int .u8 b.toNat) (.cells (cl l)) = some (.undef, S.set id (.cells (cl (l.set k b)))) := fun o l k b h => by
        have := stO_cl1 (S := S.set id o) (id := id) (k := 0) (a := b) h rfl (by decide) rfl rfl
        rw [List.set_set] at this; exact this
      have w2 : IntKind.i64.wrap ((i : Int) + 1) = ((i + 1 : Nat) : Int) := wrapS (by omega)
      have w3 : IntKind.i64.wrap ((j : Int) - 1) = ((j - 1 : Nat) : Int) := by rw [wrap64 (by omega) (by omega)]; omega
      have e1 := hj1 m i him
      have e2 := hj1 m j hjm
      have s1 := fun o => hst o m i m[j] him
      have s2 := fun o => hst o (m.set i m[j]) j m[i] (by simpa using hjm)
      simp -dsimp only [go_sem, g0, g2, g3, hlt, ia_slE .i64 hi, ia_slE .i64 hj, hg, e1, e2, s1, s2, w2, w3]
      refine ⟨l.length - (i + 1), by omega, i + 1, j - 1, (m.set i m[j]).set j m[i], rfl, by omega, rfl, rfl, rfl, by simp [hm], fun t ht => ?_⟩
      have a1 := hI i hi
      have a2 := hI j hj
      rw [if_neg (by omega)] at a1 a2
      rw [List.getElem?_eq_getElem him] at a1
      rw [List.getElem?_eq_getElem hjm] at a2
      by_cases e : t = j
      · subst e
        rw [List.getElem?_set_self (by simpa using hjm), if_pos (by omega), show l.length - 1 - t = i by omega]; exact a1
      · rw [List.getElem?_set_ne (fun q => e q.symm)]
        by_cases e' : t = i
        · subst e'
          rw [List.getElem?_set_self him, if_pos (by omega), show l.length - 1 - t = j by omega]; exact a2
        · rw [List.getElem?_set_ne (fun q => e' q.symm), hI t ht]
          by_cases c : t < i ∨ j < t
          · rw [if_pos c, if_pos (by omega)]
          · rw [if_neg c, if_neg (by omega)]
    · have hn : ¬ i < j := by omega
      simp -dsimp only [go_sem, g0, g2, g3, F76]
      congr 4
      refine List.ext_getElem? fun t => ?_
      by_cases ht : t < l.length
      · rw [hI t ht, List.getElem?_reverse ht]
        split
        · rfl
        · have : t = l.length - 1 - t := by omega
          rw [← this]
      · rw [List.getElem?_eq_none (by omega), List.getElem?_eq_none (by simp; omega)]
theorem ok_turned {E : Env} (hp : E.prim 61 = none) (hf : E.F 61 = some F61) (h1 : E.prim 39 = some fun _ => primO (fun l : List UInt8 => [enc l]) (ownRow 1000000000000))
    (hp2 : E.prim 76 = none) (hf2 : E.F 76 = some F76) : OkG E 61 e_turned (gd k_turned r_turned) := by
  refine OkG.code hp hf (fun _ => rfl) fun l S hk => ?_
  have hk : l.length ≤ 1000000 := hk
  by_cases h0 : l.length = 0
  · have : l = [] := List.eq_nil_of_length_eq_zero h0
    subst this
    have hr : Is E 76 [.csl [] 0] S (.tup []) S := by
      refine Is.of (Sp.intro hp2 hf2 rfl ?_)
      have w1 : IntKind.i64.wrap ((0 : Nat) - 1 : Int) = -1 := wrap64 (by omega) (by omega)
      simp -dsimp only [go_sem, F76, w1]
      refine Ex.while (fun k g T => g 0 = .csl [] 0 ∧ g 2 = .int .i64 0 ∧ g 3 = .int .i64 (-1) ∧ T = S) 0 ⟨rfl, rfl, rfl, rfl⟩ ?_
      rintro k g T ⟨g0, g2, g3, rfl⟩
      simp -dsimp only [go_sem, g0, g2, g3, F76]
    have hc : ∀ (K : AV → Store → Prop) (d : Dm K), SpD E 39 [.csl [] 0] S K d = K (.csl [] 0) S := fun K d => call_clone0 h1
    simp -dsimp only [go_sem, F61, e_turned, hc, enc_nil, hr.spD, r_turned, List.reverse_nil]
    exact Conv.good (v := .csl [] 0) (u := .csl [] 0) List.prefix_rfl (fun i h => by simp [topIds, topIdsL] at h) rfl
  · have hr := run_rev hp2 hf2 l h0 hk S.length (S ++ [.cells (cl l)]) (get_new0 _ _)
    rw [set_new0] at hr
    simp -dsimp only [go_sem, F61, e_turned, call_clone h1 l (by omega) h0, hr.spD, r_turned]
    exact Conv.good (List.prefix_append _ _) (fun i h => by simp [topIds] at h; omega) (rd_own (rest := []) (by rw [get_new0, List.append_nil]; rfl) (by simp) rfl)
theorem ok_put01 {E : Env} (hp : E.prim 35 = none) (hf : E.F 35 = some F35) (h1 : E.prim 60 = some fun _ => p_low) (h2 : E.prim 61 = some fun _ => p_turned) : OkG E 35 e_put01 (gd k_put01 r_put01) := by
  refine OkG.code hp hf (fun _ => rfl) fun ⟨n, k⟩ S _ => ?_
  have hl : (lowP n k).1.length ≤ 1000000 := by
    unfold lowP; split
    · simp only [leN_len]; omega
    · simp
  simp -dsimp only [go_sem, F35, e_put01, c_low h1 n k, c_turned h2 _ hl, r_put01, putP]
  exact Conv.good List.prefix_rfl (fun i h => by simp [topIds, topIdsL, enc_top] at h) (by simp [rdS, rdSL, enc_rdS, rd0])
theorem be_or (x c : Nat) (hx : x < 2 ^ 56) (hc : c < 256) : (BitVec.ofInt 64 ((x * 256 : Nat) : Int) ||| BitVec.ofInt 64 (c : Int)).toNat = x * 256 + c := by
  rw [BitVec.toNat_or, BitVec.ofInt_natCast, BitVec.ofInt_natCast, BitVec.toNat_ofNat, BitVec.toNat_ofNat, Nat.mod_eq_of_lt (by omega), Nat.mod_eq_of_lt (by omega)]
  rw [show x * 256 = x <<< 8 by rw [Nat.shiftLeft_eq], ← Nat.shiftLeft_add_eq_or_of_lt (by simpa using hc)]
theorem ofBE_snoc (l : List UInt8) (c : UInt8) : ofBE (l ++ [c]) = ofBE l * 256 + c.toNat := by simp [ofBE]
theorem ofBE_lt (l : List UInt8) : ofBE l < 256 ^ l.length := by
  have h : ∀ n, ∀ l : List UInt8, l.length = n → ofBE l < 256 ^ n := by
    intro n
    induction n with
    | zero => intro l hl; have := List.eq_nil_of_length_eq_zero hl; subst this; decide
    | succ n ih =>
      intro l hl
      obtain ⟨a, m, rfl⟩ : ∃ a m, l = m ++ [a] := ⟨l.getLast (by rintro rfl; simp at hl), l.dropLast, (List.dropLast_concat_getLast _).symm⟩
      rw [ofBE_snoc, Nat.pow_succ]
      have := ih m (by simpa using hl)
      have := a.toNat_lt
      omega
  exact h _ l rfl
theorem ok_get01 {E : Env} (hp : E.prim 36 = none) (hf : E.F 36 = some F36) : OkS E 36 e_get01 (gd k_get01 r_get01) := by
  refine OkS.code hp hf (fun _ => rfl) fun b _ => ?_
  by_cases h0 : b.length = 0
  · have y : decide ((b.length : Int) = 0) = true := decide_eq_true (by omega)
    simp -dsimp only [go_sem, F36, e_get01, r_get01, getP, y, h0]
  have y0 : decide ((b.length : Int) = 0) = false := decide_eq_false (by omega)
  by_cases h8 : 8 < b.length
  · have y : decide ((8 : Int) < (b.length : Int)) = true := decide_eq_true (by omega)
    simp -dsimp only [go_sem, F36, e_get01, r_get01, getP, y0, y, h0, h8]
  have y8 : decide ((8 : Int) < (b.length : Int)) = false := decide_eq_false (by omega)
  simp -dsimp only [go_sem, F36, e_get01, r_get01, y0, y8]
  refine Ex.range (n := b.length) (fun i g T => g 15 = enc b ∧ g 4 = .int .u64 ((ofBE (b.take i) : Nat) : Int)) (by decide) (by omega) rfl rfl ⟨rfl, rfl⟩ ?_ ?_
  · rintro i g T hi gi gn ⟨g15, g4⟩
    have hx : ofBE (b.take i) < 2 ^ 56 := by
      have := ofBE_lt (b.take i)
      rw [List.length_take, Nat.min_eq_left (by omega)] at this
      have h7 : 256 ^ i ≤ 256 ^ 7 := Nat.pow_le_pow_right (by decide) (by omega)
      omega
    have hc := b[i].toNat_lt
    have hs : ∀ x : Nat, x < 2 ^ 56 → abin .shl (.int .u64 (x : Int)) (.int .u64 8) = some (.int .u64 ((x * 256 : Nat) : Int)) := fun x hx => by
      rw [b_shl (by omega)]
      have : (x : Int) * 2 ^ (min (8 : Int).toNat IntKind.u64.bits) = ((x * 256 : Nat) : Int) := by
        rw [show min (8 : Int).toNat IntKind.u64.bits = 8 from rfl]; omega
      rw [this, wrapu64 (by omega) (by omega)]
    have w1 : IntKind.u64.wrap ((b[i].toNat : Nat) : Int) = ((b[i].toNat : Nat) : Int) := wrapu64 (by omega) (by omega)
    have ho : abin .or (.int .u64 ((ofBE (b.take i) * 256 : Nat) : Int)) (.int .u64 ((b[i].toNat : Nat) : Int)) = some (.int .u64 ((ofBE (b.take i) * 256 + b[i].toNat : Nat) : Int)) := by
      rw [b_or]
      have := be_or (ofBE (b.take i)) b[i].toNat hx hc
      rw [show IntKind.u64.bits = 64 from rfl, this, wrapu64 (by omega) (by omega)]
    simp -dsimp only [go_sem, gi, gn, g15, g4, ia_enc .i64 hi, hs _ hx, w1, ho]
    rw [List.take_succ_eq_append_getElem hi, ofBE_snoc]
  · rintro g T gi ⟨g15, g4⟩
    rw [List.take_length] at g4
    have hlt : ofBE b < 256 ^ 8 := Nat.lt_of_lt_of_le (ofBE_lt b) (Nat.pow_le_pow_right (by decide) (by omega))
    by_cases ht : 4611686018427387904 < ofBE b
    · have y : decide ((4611686018427387904 : Int) < (ofBE b : Int)) = true := decide_eq_true (by omega)
      simp -dsimp only [go_sem, g15, g4, F36, r_get01, getP, h0, h8, y, ht]
    · have y : decide ((4611686018427387904 : Int) < (ofBE b : Int)) = false := decide_eq_false (by omega)
      have w2 : IntKind.i64.wrap ((ofBE b : Nat) : Int) = ((ofBE b : Nat) : Int) := wrap64 (by omega) (by omega)
      simp -dsimp only [go_sem, g15, g4, F36, r_get01, getP, h0, h8, y, ht, w2]
theorem putP_len (n k : Int) : (putP n k).1.length ≤ 8 := by
  unfold putP lowP; simp only; split
  · simp only [List.length_reverse, leN_len]; omega
  · simp
theorem ok_plain {E : Env} (hp : E.prim 78 = none) (hf : E.F 78 = some F78) (h1 : E.prim 35 = some fun _ => p_put01) : OkG E 78 e_plain (gd k_plain r_plain) := by
  refine OkG.code hp hf (fun _ => rfl) fun n S _ => ?_
  simp -dsimp only [go_sem, F78, e_plain, c_put01 h1 n 8]
  refine Ex.while (fun k g T => ∃ m : List UInt8, k = m.length ∧ T = S ∧ g 3 = enc m ∧ m.dropWhile (· == 0) = plainP n) (putP n 8).1.length ⟨_, rfl, rfl, rfl, rfl⟩ ?_
  rintro k g T ⟨m, rfl, rfl, g3, hm⟩
  have fin1 : m = plainP n → Conv T T (enc m) T (enc (plainP n)) := fun h => by rw [h]; exact Conv.good List.prefix_rfl (fun i h => by simp [enc_top] at h) (enc_rdS _ _)
  cases m with
  | nil =>
    simp -dsimp only [go_sem, g3, F78, r_plain]
    exact fin1 hm
  | cons a m =>
    have y : decide ((0 : Int) < ((m.length + 1 : Nat) : Int)) = true := decide_eq_true (by omega)
    have hia : iaddrA 1 (enc (a :: m)) (.int .i64 0) = some (.cptr (Rec.c a ++ cl m)) := ia_enc (l := a :: m) (i := 0) .i64 (by simp) rfl
    have hsl : sliceA 1 (enc (a :: m)) (some (.int .i64 1)) none none = some (enc m) := by
      have := sl_enc (sz := 1) (l := a :: m) (i := 1) (j := (a :: m).length) (lo := some (.int .i64 1)) (hi := none) rfl rfl rfl (by simp) (Nat.le_refl _)
      rw [this]; simp
    cases y0 : decide ((a.toNat : Int) = 0)
    · have : m.dropWhile (· == 0) = m.dropWhile (· == 0) := rfl
      have ha : (a == 0) = false := by
        simp only [decide_eq_false_iff_not] at y0
        simp only [beq_eq_false_iff_ne, ne_eq]
        rintro rfl; exact y0 rfl
      simp -dsimp only [go_sem, g3, y, hia, y0, F78, r_plain]
      exact fin1 (by rw [← hm, List.dropWhile_cons, ha]; rfl)
    · have ha : (a == 0) = true := by
        simp only [decide_eq_true_eq] at y0
        simp only [beq_iff_eq]
        exact UInt8.toNat_inj.1 (by simpa using (by omega : a.toNat = 0))
      simp -dsimp only [go_sem, g3, y, hia, y0, hsl]
      exact ⟨m.length, by omega, m, rfl, rfl, by rw [← hm, List.dropWhile_cons, ha]; rfl⟩
end Go.Proofs.YtaajlbbooneiiaaDoor.Avm
set_option linter.unusedVariables false
set_option linter.unusedSimpArgs false
set_option maxRecDepth 10000
namespace Go.Proofs.YtaajlbbooneiiaaDoor.Avm

theorem run_of {E : Env} (hp : E.prim 40 = none) (hf : E.F 40 = some F40) (x : AV) (hx : x.cells = [x]) (S : Store) : Is E 40 [x] S (.agg [.int .i64 3, .int .i64 0, .nilS, x]) (S ++ [.cells [.int .i64 3, .int .i64 0, .nilS, x]]) := by
  refine Is.of (Sp.intro hp hf rfl ?_)
  simp -dsimp only [go_sem, F40, hx]
theorem ok_of02 {E : Env} (hp : E.prim 40 = none) (hf : E.F 40 = some F40) : PrimE E 40 p_of02 := fun args S v S' h => by
  unfold p_of02 at h
  split at h
  · rename_i x
    split at h
    · rename_i hx
      have hx := AV.beqL_eq _ _ hx
      cases h
      obtain ⟨N, hN⟩ := run_of hp hf x hx S
      exact ⟨N, _, _, hN N (Nat.le_refl _), fun hr => Conv.junk (List.prefix_append _ _) (Cv.aggOf (.cons (.int _ _) (.cons (.int _ _) (.cons .nilS0 (.cons (hr _ _ (fun i hi => if_pos hi) _ (by simp)) .nil)))))⟩
    · cases h
  · cases h
theorem ok_num02 {E : Env} (hp : E.prim 41 = none) (hf : E.F 41 = some F41) : OkG E 41 e_num02 (gd k_num02 r_num02) := by
  refine OkG.code hp hf (fun _ => rfl) fun l S _ => ?_
  simp -dsimp only [go_sem, F41, e_num02, r_num02]
  exact Conv.good (List.prefix_append _ _) (fun i h => by simp [topIds, topIdsL, enc_top] at h) (by simp [rdS, rdSL, rd0, enc_rdS, enc_nil, Val.kind, Val.num, Val.bytes, Val.list])
theorem ok_raw02 {E : Env} (hp : E.prim 42 = none) (hf : E.F 42 = some F42) : OkG E 42 e_raw02 (gd k_raw02 r_raw02) := by
  refine OkG.code hp hf (fun _ => rfl) fun l S _ => ?_
  simp -dsimp only [go_sem, F42, e_raw02, r_raw02]
  exact Conv.good (List.prefix_append _ _) (fun i h => by simp [topIds, topIdsL, enc_top] at h) (by simp [rdS, rdSL, rd0, enc_rdS, enc_nil, Val.kind, Val.num, Val.bytes, Val.list])
theorem len0 (n : Nat) : decide ((n : Int) = 0) = decide (n = 0) := decide_eq_decide.2 (by omega)
theorem ok_pure {E : Env} (hp : E.prim 89 = none) (hf : E.F 89 = some F89) : OkS E 89 e_pure (gd k_pure r_pure) := by
  refine OkS.code hp hf (fun _ => rfl) fun v _ => ?_
  have z1 : ∀ a b : Bool, AV.bool (if a then b else false) = AV.bool (a && b) := fun a b => by cases a <;> rfl
  have e1 : decide (v.bytes.length ≤ 1048576) = decide ((v.bytes.length : Int) ≤ 1048576) := decide_eq_decide.2 (by omega)
  have e2 : decide (v.list.length ≤ 4096) = decide ((v.list.length : Int) ≤ 4096) := decide_eq_decide.2 (by omega)
  have e3 := len0 v.bytes.length
  have e4 := len0 v.list.length
  cases k1 : decide (v.kind = 1)
  · have k1' := of_decide_eq_false k1
    cases k2 : decide (v.kind = 2)
    · have k2' := of_decide_eq_false k2
      cases k3 : decide (v.kind = 3)
      · have k3' := of_decide_eq_false k3
        simp -dsimp only [go_sem, F89, e_pure, r_pure, k1, k2, k3, k1', k2', k3', pure1]
      · have k3' := of_decide_eq_true k3
        cases q1 : decide (v.num = 0) <;> cases q2 : decide (v.bytes.length = 0) <;> cases q3 : decide ((v.list.length : Int) ≤ 4096) <;>
          simp -dsimp only [go_sem, F89, e_pure, r_pure, k1, k2, k3, k1', k2', k3', pure1, e1, e2, e3, e4, q1, q2, q3, Bool.and_true, Bool.and_false, Bool.true_and, Bool.false_and]
    · have k2' := of_decide_eq_true k2
      cases q1 : decide (v.num = 0) <;> cases q2 : decide ((v.bytes.length : Int) ≤ 1048576) <;> cases q3 : decide (v.list.length = 0) <;>
          simp -dsimp only [go_sem, F89, e_pure, r_pure, k1, k2, k1', k2', pure1, e1, e2, e3, e4, q1, q2, q3, Bool.and_true, Bool.and_false, Bool.true_and, Bool.false_and]
  · have k1' := of_decide_eq_true k1
    cases q1 : decide (0 ≤ v.num) <;> cases q1' : decide (v.num ≤ 4611686018427387904) <;> cases q2 : decide (v.bytes.length = 0) <;> cases q3 : decide (v.list.length = 0) <;>
          simp -dsimp only [go_sem, F89, e_pure, r_pure, k1, k1', pure1, e1, e2, e3, e4, q1, q1', q2, q3, Bool.and_true, Bool.and_false, Bool.true_and, Bool.false_and, Bool.decide_and]
theorem measAL_cons (v : Val) (l : List Val) (room deep acc : Int) : measAL (v :: l) room deep acc = if (measA v (room - acc) deep).2 = true then measAL l room deep (acc + (measA v (room - acc) deep).1) else (0, false) := by rw [measAL]
theorem okB_measure {E : Env} {d : Nat} (h0 : E.prim 77 = some fun _ => p_measure d) (h1 : E.prim 89 = some fun _ => p_pure) (h2 : E.prim 78 = some fun _ => p_plain) : OkSB E F77 e_measure (gd (k_measure (d + 1)) r_measure) := by
  refine OkSB.code (fun _ => rfl) fun ⟨v, room, deep⟩ ⟨hd, hdd, hd16, hr, hr2⟩ => ?_
  have cp : ∀ (S : Store) (K : AV → Store → Prop) (q : Dm K), SpD E 89 [.agg (valL v)] S K q = K (.bool (pure1 v)) S := fun _ _ _ => c_pure h1 v
  have y3 : decide (deep < 0) = false := decide_eq_false (by omega)
  obtain ⟨k, n, b, l⟩ := v
  simp only [valL, k_mk, n_mk, b_mk, l_mk] at cp
  cases y1 : pure1 (.mk k n b l)
  · simp -dsimp only [go_sem, F77, e_measure, r_measure, cp, y1, measA, Bool.true_or]
  cases y2 : decide (room < 0)
  rotate_left
  · simp -dsimp only [go_sem, F77, e_measure, r_measure, cp, y1, y2, measA, Bool.true_or, Bool.or_true]
  by_cases k1 : k = 1
  · subst k1
    have w1 : IntKind.i64.wrap (2 + ((plainP n).length : Int)) = 2 + ((plainP n).length : Int) := by
      have := plain_len n
      exact wrap64 (by omega) (by omega)
    simp -dsimp only [go_sem, F77, e_measure, r_measure, cp, y1, y2, y3, measA, Bool.or_self, c_plain h2, w1]
  by_cases k2 : k = 2
  · subst k2
    have w1 : IntKind.i64.wrap (4 + (b.length : Int)) = 4 + (b.length : Int) := by
      have := (pure1_2 y1 rfl).2.1
      simp only [Val.bytes] at this
      exact wrap64 (by omega) (by omega)
    simp -dsimp only [go_sem, F77, e_measure, r_measure, cp, y1, y2, y3, measA, Bool.or_self, w1]
  cases y4 : decide (deep = 0)
  rotate_left
  · have := of_decide_eq_true y4
    subst this
    simp -dsimp only [go_sem, F77, e_measure, r_measure, cp, y1, y2, k1, k2, measA, Bool.or_self, Int.lt_irrefl]
  have y4' := of_decide_eq_false y4
  have hl := (pure1_3 y1 k1 k2).2.2.2
  simp only [Val.list] at hl
  have y2' := of_decide_eq_false y2
  simp -dsimp only [go_sem, F77, e_measure, r_measure, cp, y1, y2, y3, y4, k1, k2, measA, Bool.or_self]
  have hres : measA (.mk k n b l) room deep = measAL l room (deep - 1) 3 := by
    unfold measA
    rw [if_neg (by simp [y1, y2, y3]), if_neg k1, if_neg k2, if_neg y4']
  refine Ex.range (n := l.length) (fun i g T => g 1 = .int .i64 room ∧ g 2 = .int .i64 deep ∧ g 42 = enc l ∧ ∃ acc : Int, g 8 = .int .i64 acc ∧ 0 ≤ acc ∧ acc ≤ room + 1048580 ∧ measAL l room (deep - 1) 3 = measAL (l.drop i) room (deep - 1) acc) (by decide) (by omega) rfl rfl ⟨rfl, rfl, rfl, 3, rfl, by omega, by omega, rfl⟩ ?_ ?_
  · rintro i g T hi gi gn ⟨g1, g2, g42, acc, g8, ha, hb, hI⟩
    have w1 : IntKind.i64.wrap (room - acc) = room - acc := wrap64 (by omega) (by omega)
    have w2 : IntKind.i64.wrap (deep - 1) = deep - 1 := wrap64 (by omega) (by omega)
    have cm := fun (S : Store) (K : AV → Store → Prop) (q : Dm K) => c_measure h0 l[i] (room - acc) (deep - 1) ⟨by omega, by omega, by omega, by omega, by omega⟩ (S := S) (K := K) (d := q)
    rw [List.drop_eq_getElem_cons hi] at hI
    rw [measAL_cons] at hI
    have hle := meas_le l[i] (room - acc) (deep - 1)
    cases ym : (measA l[i] (room - acc) (deep - 1)).2
    · rw [ym, if_neg (by decide)] at hI
      simp -dsimp only [go_sem, gi, gn, g1, g2, g42, g8, ia_enc .i64 hi, ld_enc, w1, w2, cm, ym, F77, r_measure, hres, hI]
    · rw [ym, if_pos rfl] at hI
      have hle := hle ym
      have w3 : IntKind.i64.wrap (acc + (measA l[i] (room - acc) (deep - 1)).1) = acc + (measA l[i] (room - acc) (deep - 1)).1 := wrap64 (by omega) (by omega)
      simp -dsimp only [go_sem, gi, gn, g1, g2, g42, g8, ia_enc .i64 hi, ld_enc, w1, w2, cm, ym, w3]
      exact ⟨_, rfl, by omega, by omega, hI⟩
  · rintro g T gi ⟨g1, g2, g42, acc, g8, ha, hb, hI⟩
    rw [List.drop_length] at hI
    simp -dsimp only [go_sem, g8, F77, r_measure, hres, hI, measAL]
theorem ok_size {E : Env} (hp : E.prim 63 = none) (hf : E.F 63 = some F63) (h1 : E.prim 77 = some fun _ => p_measure 17) : OkS E 63 e_size (gd k_size r_size) := by
  refine OkS.code hp hf (fun _ => rfl) fun v _ => ?_
  have cm := fun (S : Store) (K : AV → Store → Prop) (q : Dm K) => c_measure h1 v 1048576 16 ⟨by omega, by omega, by omega, by omega, by omega⟩ (S := S) (K := K) (d := q)
  cases y1 : (measA v 1048576 16).2
  · simp -dsimp only [go_sem, F63, e_size, r_size, cm, y1, sizeP, Bool.true_or]
  cases y2 : decide (1048576 < (measA v 1048576 16).1)
  · simp -dsimp only [go_sem, F63, e_size, r_size, cm, y1, y2, sizeP, Bool.false_or]
  · simp -dsimp only [go_sem, F63, e_size, r_size, cm, y1, y2, sizeP, Bool.or_true]
end Go.Proofs.YtaajlbbooneiiaaDoor.Avm
set_option linter.unusedVariables false
set_option linter.unusedSimpArgs false
set_option maxRecDepth 10000
namespace Go.Proofs.YtaajlbbooneiiaaDoor.Avm

theorem OwnL.lt {α : Type} [Rec α] {S0 T : Store} {x : AV} {l : List α} (h : OwnL S0 T x l) : ∀ i, i ∈ topIds x → i < T.length := by
  obtain ⟨h1, h2, ⟨rfl, h3⟩ | ⟨id, q1, rfl, q3⟩⟩ := h
  · intro i hi; simp [topIds] at hi
  · intro i hi; simp [topIds] at hi; subst hi; exact (List.getElem?_eq_some_iff.1 q3).1
theorem u8_wrap (n : Nat) : IntKind.u8.wrap (n : Int) = ((UInt8.ofNat n).toNat : Int) := by rw [wrapu8, UInt8.toNat_ofNat']; omega
theorem bytesA_1 (n : Int) (b : List UInt8) (l : List Val) : bytesA (.mk 1 n b l) = 1 :: UInt8.ofNat (plainP n).length :: plainP n := by rw [bytesA, if_pos rfl]
theorem bytesA_2 (n : Int) (b : List UInt8) (l : List Val) : bytesA (.mk 2 n b l) = 2 :: ((putP b.length 3).1 ++ b) := by rw [bytesA, if_neg (by decide), if_pos rfl]
theorem bytesA_3 {k : Int} (n : Int) (b : List UInt8) (l : List Val) (h1 : k ≠ 1) (h2 : k ≠ 2) : bytesA (.mk k n b l) = 3 :: ((putP l.length 2).1 ++ bytesAL l) := by rw [bytesA, if_neg h1, if_neg h2]
theorem run_put {E : Env} (hp : E.prim 64 = none) (hf : E.F 64 = some F64) (h1 : E.prim 78 = some fun _ => p_plain) (h2 : E.prim 35 = some fun _ => p_put01) : ∀ v : Val, pureA v = true → ∀ (S0 T : Store) (x : AV) (l : List UInt8), OwnL S0 T x l → l.length + (bytesA v).length ≤ 1000000000 →
    Sp E 64 [x, .agg (valL v)] T fun y T' => OwnL S0 T' y (l ++ bytesA v) := by
  refine Val.ind fun k n b vs ih hpu S0 T x l hO hb => ?_
  refine Sp.intro hp hf rfl ?_
  have hpp : pure1 (.mk k n b vs) = true ∧ pureAL vs = true := by simpa [pureA] using hpu
  have hbox : ∀ {T' : Store} (hK : Keep S0 (T ++ [.cells (valL (.mk k n b vs))]) T' x), T'[T.length]? = some (.cells (valL (.mk k n b vs))) := fun hK => hK _ _ (get_new0 _ _) fun hi => by have := hO.lt _ hi; omega
  by_cases k1 : k = 1
  · subst k1
    rw [bytesA_1] at hb ⊢
    simp only [List.length_cons] at hb
    simp -dsimp only [go_sem, F64, c_plain h1, u8_wrap]
    refine OwnL.app (hO.more _) (m := [1, UInt8.ofNat (plainP n).length]) rfl rfl (by simp only [List.length_cons, List.length_nil]; omega) fun x' T' hO' hK hi => ?_
    simp -dsimp only [go_sem]
    refine OwnL.app hO' rfl (el_enc _ rfl) (by simp only [List.length_append, List.length_cons, List.length_nil]; omega) fun x2 T2 hO2 hK2 hi2 => ?_
    simp -dsimp only [go_sem, F64]
    simpa using hO2
  by_cases k2 : k = 2
  · subst k2
    rw [bytesA_2] at hb ⊢
    simp only [List.length_cons, List.length_append] at hb
    have hl8 := putP_len b.length 3
    simp -dsimp only [go_sem, F64, c_put01 h2]
    refine ExF.intro ?_
    simp -dsimp only [go_sem]
    refine OwnL.app (hO.more _) (m := [2]) rfl rfl (by simp only [List.length_cons, List.length_nil]; omega) fun x' T' hO' hK hi => ?_
    have q1 := hbox hK
    simp -dsimp only [go_sem]
    refine OwnL.app hO' rfl (el_enc _ rfl) (by simp only [List.length_append, List.length_cons, List.length_nil]; omega) fun x2 T2 hO2 hK2 hi2 => ?_
    have q2 := hK2 _ _ q1 fun h => by
      rcases hi _ h with h | h
      · have := hO.lt _ h; omega
      · rw [List.length_append, List.length_singleton] at h; omega
    simp -dsimp only [go_sem, q2]
    refine OwnL.app hO2 rfl (el_enc _ rfl) (by simp only [List.length_append, List.length_cons, List.length_nil]; omega) fun x3 T3 hO3 hK3 hi3 => ?_
    simp -dsimp only [go_sem, F64]
    refine ⟨?_, fl_ld rfl rfl rfl rfl (flLd_n _ _ _ _ _ _ ?_), fl_ld rfl rfl rfl rfl (flLd_n _ _ _ _ _ _ ?_)⟩
    · simpa using hO3
    · simp -dsimp only [go_sem, q1]
    · simp -dsimp only [go_sem, q1]
  · rw [bytesA_3 n b vs k1 k2] at hb ⊢
    simp only [List.length_cons, List.length_append] at hb
    have hl8 := putP_len vs.length 2
    have hl := (pure1_3 hpp.1 k1 k2).2.2.2
    simp only [Val.list] at hl
    simp -dsimp only [go_sem, F64, c_put01 h2, k1, k2]
    refine OwnL.app (hO.more _) (m := [3]) rfl rfl (by simp only [List.length_cons, List.length_nil]; omega) fun x' T' hO' hK hi => ?_
    have q1 := hbox hK
    simp -dsimp only [go_sem]
    refine OwnL.app hO' rfl (el_enc _ rfl) (by simp only [List.length_append, List.length_cons, List.length_nil]; omega) fun x2 T2 hO2 hK2 hi2 => ?_
    have q2 := hK2 _ _ q1 fun h => by
      rcases hi _ h with h | h
      · have := hO.lt _ h; omega
      · rw [List.length_append, List.length_singleton] at h; omega
    simp -dsimp only [go_sem, q2]
    refine Ex.range (n := vs.length) (fun i g T => g 57 = enc vs ∧ OwnL S0 T (g 0) (l ++ [3] ++ (putP vs.length 2).1 ++ bytesAL (vs.take i))) (by decide) (by omega) rfl rfl ⟨rfl, by simpa [bytesAL, upd_apply] using hO2⟩ ?_ ?_
    · rintro i g T hi gi gn ⟨g57, hO⟩
      simp -dsimp only [go_sem, gi, gn, g57, ia_enc .i64 hi, ld_enc]
      have ht : bytesAL (vs.take (i + 1)) = bytesAL (vs.take i) ++ bytesA vs[i] := by rw [List.take_succ_eq_append_getElem hi, bytesAL_append]; simp [bytesAL]
      have hbb : (bytesAL (vs.take (i + 1))).length ≤ (bytesAL vs).length := by
        have : bytesAL vs = bytesAL (vs.take (i + 1)) ++ bytesAL (vs.drop (i + 1)) := by rw [← bytesAL_append, List.take_append_drop]
        rw [this, List.length_append]; omega
      rw [ht, List.length_append] at hbb
      refine Sp.ofD (ih vs[i] (List.getElem_mem hi) (pureAL_mem hpp.2 _ (List.getElem_mem hi)) S0 _ _ _ (hO.more _) ?_) fun y T' hy => ?_
      · simp only [List.length_append, List.length_cons, List.length_nil]; omega
      · simp -dsimp only [go_sem, gi, gn, g57]
        rw [ht]; simpa using hy
    · rintro g T gi ⟨g57, hO⟩
      rw [List.take_length] at hO
      simp -dsimp only [go_sem, F64]
      simpa using hO
theorem ok_encode {E : Env} (hp : E.prim 43 = none) (hf : E.F 43 = some F43) (h0 : E.prim 63 = some fun _ => p_size) (hp2 : E.prim 64 = none) (hf2 : E.F 64 = some F64) (h1 : E.prim 78 = some fun _ => p_plain) (h2 : E.prim 35 = some fun _ => p_put01)
    (hsize : ∀ v, (sizeP v).2 = true → pureA v = true ∧ (bytesA v).length ≤ 1048576) : OkG E 43 e_encode (gd k_encode r_encode) := by
  refine OkG.code hp hf (fun _ => rfl) fun v S _ => ?_
  cases y1 : (sizeP v).2
  · simp -dsimp only [go_sem, F43, e_encode, r_encode, c_size h0 v, y1, encodeP]
    exact conv_pair (List.prefix_append _ _) (fun i h => by simp [topIds] at h) rfl
  · obtain ⟨k1, k2⟩ := hsize v y1
    simp -dsimp only [go_sem, F43, e_encode, r_encode, c_size h0 v, y1]
    refine Sp.ofD (run_put hp2 hf2 h1 h2 v k1 S _ .nilS [] (OwnL.nil (List.prefix_append _ _)) (by simp; omega)) fun y T' hy => ?_
    have he : encodeP v = (bytesA v, 0) := if_pos y1
    simp -dsimp only [go_sem, F43, r_encode, he]
    exact conv_pair hy.1 hy.ids hy.rd
end Go.Proofs.YtaajlbbooneiiaaDoor.Avm
set_option linter.unusedVariables false
set_option linter.unusedSimpArgs false
set_option maxRecDepth 10000
namespace Go.Proofs.YtaajlbbooneiiaaDoor.Avm

/-- a slice to its own end -/
theorem sl3_enc {α : Type} [Rec α] {sz : Nat} {l : List α} {n : Nat} {k1 k2 : IntKind} (h : sz = Rec.sz α) (hn : n ≤ l.length) : sliceA sz (enc l) none (some (.int k1 n)) (some (.int k2 n)) = some (if n = 0 then .emp else enc (l.take n)) := by
  subst h
  simp only [enc, sliceA, optI_n, optI_s, Option.bind_some, Option.isNone_some, Option.isSome_some, Bool.false_eq_true, false_or, and_true, true_and]
  rw [if_pos (by omega)]
  congr 1
  by_cases h0 : n = 0
  · subst h0; rw [if_pos rfl]; simp
  · rw [if_neg (by omega), if_neg h0]
    simp only [Int.toNat_zero, Nat.zero_mul, List.drop_zero, Int.toNat_natCast, Nat.sub_zero, cl_take]
    rw [List.length_take, Nat.min_eq_left hn]
theorem sl_from {α : Type} [Rec α] {sz : Nat} {l : List α} {n : Nat} {k1 : IntKind} (h : sz = Rec.sz α) (hn : n ≤ l.length) : sliceA sz (enc l) (some (.int k1 n)) none none = some (enc (l.drop n)) := by
  have := sl_enc (sz := sz) (l := l) (i := n) (j := l.length) (lo := some (.int k1 n)) (hi := none) h rfl rfl hn (Nat.le_refl _)
  rw [this, List.take_of_length_le (by simp)]
theorem ok_take {E : Env} (hp : E.prim 81 = none) (hf : E.F 81 = some F81) : OkM E 81 rdrL e_take (gdM k_take r_take) := by
  refine OkM.code hp hf (fun _ => rfl) fun ⟨b, e⟩ n S id hs _ => ?_
  have hid := (List.getElem?_eq_some_iff.1 hs).1
  simp only [rdrL] at hs
  by_cases he : e = 0
  · subst he
    by_cases hn : b.length < n
    · have y : decide ((b.length : Int) < (n : Int)) = true := decide_eq_true (by omega)
      have ht : takeP (b, 0) n = ([], (b, 10)) := by simp [takeP, hn]
      simp -dsimp only [go_sem, F81, e_take, r_take, ht, hs, y, gset hs, rdrL]
      exact Conv.turned (cs := [enc b, .int .i64 10]) List.prefix_rfl hid (fun i h => by simp [topIds, topIdsL, enc_top] at h) (by simp [rdSL, rdS, rd0, enc_rdS]) (fun i h => by simp [topIds] at h) rfl
    · have y : decide ((b.length : Int) < (n : Int)) = false := decide_eq_false (by omega)
      have ht : takeP (b, 0) n = (b.take n, (b.drop n, 0)) := by simp [takeP, hn]
      simp -dsimp only [go_sem, F81, e_take, r_take, ht, hs, y, gset hs, rdrL, sl3_enc (α := UInt8) (sz := 1) (l := b) (n := n) rfl (by omega), sl_from (α := UInt8) (sz := 1) (l := b) (n := n) rfl (by omega)]
      refine Conv.turned (cs := [enc (b.drop n), .int .i64 0]) List.prefix_rfl hid (fun i h => by simp [topIds, topIdsL, enc_top] at h) (by simp [rdSL, rdS, rd0, enc_rdS]) (fun i h => ?_) ?_
      · split at h
        · simp [topIds] at h
        · simp [enc_top] at h
      · split
        · rename_i h0; subst h0; rfl
        · exact enc_rdS _ _
  · have y : decide (e = 0) = false := decide_eq_false he
    have ht : takeP (b, e) n = ([], (b, e)) := by simp [takeP, he]
    simp -dsimp only [go_sem, F81, e_take, r_take, ht, hs, y, rdrL]
    rw [set_self hs]
    exact Conv.good (u := enc ([] : List UInt8)) List.prefix_rfl (fun i h => by simp [topIds] at h) rfl
theorem ok_fail {E : Env} (hp : E.prim 84 = none) (hf : E.F 84 = some F84) : OkM E 84 rdrL e_fail (gdM k_fail r_fail) := by
  refine OkM.code hp hf (fun _ => rfl) fun ⟨b, e⟩ _ S id hs _ => ?_
  have hid := (List.getElem?_eq_some_iff.1 hs).1
  simp only [rdrL] at hs
  by_cases he : e = 0
  · subst he
    simp -dsimp only [go_sem, F84, e_fail, r_fail, failP, hs, rdrL]
    exact Conv.turned (cs := [enc b, .int .i64 11]) List.prefix_rfl hid (fun i h => by simp [topIds, topIdsL, enc_top] at h) (by simp [rdSL, rdS, rd0, enc_rdS]) (fun i h => by simp [topIds, topIdsL] at h) rfl
  · have y : decide (e = 0) = false := decide_eq_false he
    simp -dsimp only [go_sem, F84, e_fail, r_fail, failP, hs, y, he, rdrL]
    rw [set_self hs]
    exact Conv.good List.prefix_rfl (fun i h => by simp [topIds, topIdsL] at h) rfl
theorem Conv.rdr {S T : Store} {id : Nat} {s : Rdr} {v u : AV} (hp : S.set id (.cells (rdrL s)) <+: T) (hid : id < S.length) (hj : ∀ i, i ∈ topIds v → S.length ≤ i) (hv : rdS T v = some u) : Conv S T v (S.set id (.cells (rdrL s))) u :=
  Conv.turned hp hid (fun i h => by simp [rdrL, topIds, topIdsL, enc_top] at h) (by simp [rdrL, rdSL, rdS, rd0, enc_rdS]) hj hv
theorem getP_nat (b : List UInt8) : (((getP b).1.toNat : Nat) : Int) = (getP b).1 := by
  unfold getP; split
  · rfl
  · split
    · rfl
    · split
      · rfl
      · simp
theorem ok_count {E : Env} (hp : E.prim 83 = none) (hf : E.F 83 = some F83) (h1 : E.prim 81 = some fun _ => p_take) (h2 : E.prim 36 = some fun _ => p_get01) : OkM E 83 rdrL e_count (gdM k_count r_count) := by
  refine OkM.code hp hf (fun _ => rfl) fun s n S id hs _ => ?_
  have hid := (List.getElem?_eq_some_iff.1 hs).1
  simp -dsimp only [go_sem, F83, e_count, r_count, c_take h1 hs, c_get01 h2]
  have e : (((countP s n).1 : Nat) : Int) = (getP (takeP s n).1).1 := getP_nat _
  have e2 : (countP s n).2 = (takeP s n).2 := rfl
  rw [e, e2]
  exact Conv.rdr List.prefix_rfl hid (fun i h => by simp [topIds] at h) rfl
theorem rd_val (T : Store) (k n : Int) (b : List UInt8) (l : List Val) {x y : AV} (hx : rdS T x = some (enc b)) (hy : rdS T y = some (enc l)) : rdS T (.agg [.int .i64 k, .int .i64 n, x, y]) = some (.agg (valL (.mk k n b l))) := by
  simp [rdS, rdSL, rd0, hx, hy, valL, Val.kind, Val.num, Val.bytes, Val.list]
theorem headD_0 {l : List UInt8} (h : 0 < l.length) : l.headD 0 = l[0] := by
  cases l with
  | nil => simp at h
  | cons a l => rfl
theorem ok_number {E : Env} (hp : E.prim 82 = none) (hf : E.F 82 = some F82) (h1 : E.prim 81 = some fun _ => p_take) (h2 : E.prim 36 = some fun _ => p_get01)
    (h3 : E.prim 83 = some fun _ => p_count) (h4 : E.prim 84 = some fun _ => p_fail) (h5 : E.prim 41 = some fun _ => p_num02) : OkM E 82 rdrL e_number (gdM k_number r_number) := by
  refine OkM.code hp hf (fun _ => rfl) fun s _ S id hs _ => ?_
  have hid := (List.getElem?_eq_some_iff.1 hs).1
  have q1 : ∀ (l : List AObj) (K : AV → Store → Prop) (q : Dm K), SpD E 83 [.ptr id 0, .int .i64 1] (S ++ l) K q = K (.int .i64 (countP s 1).1) ((S ++ l).set id (.cells (rdrL (countP s 1).2))) := fun l K q => c_count h3 (get_old hs l) 1
  have q2 := fun (s' : Rdr) (l : List AObj) (K : AV → Store → Prop) (q : Dm K) => c_fail h4 (S := S.set id (.cells (rdrL s')) ++ l) (get_oldS hs l) (K := K) (d := q)
  have q3 := fun (s' : Rdr) (n : Nat) (l : List AObj) (K : AV → Store → Prop) (q : Dm K) => c_take h1 (S := S.set id (.cells (rdrL s')) ++ l) (get_oldS hs l) n (K := K) (d := q)
  have e1 : numberP s = (let s1 := countP s 1
    let s2 := if 8 < s1.1 then failP s1.2 else s1.2
    let s3 := takeP s2 s1.1
    if s3.1.length = 0 then (.mk 1 0 [] [], s3.2)
    else (.mk 1 (getP s3.1).1 [] [], if (getP s3.1).2 ≠ 0 ∨ s3.1.headD 0 = 0 then failP s3.2 else s3.2)) := rfl
  simp only at e1
  obtain ⟨s1, hs1⟩ : ∃ s1, countP s 1 = s1 := ⟨_, rfl⟩
  obtain ⟨s2, hs2⟩ : ∃ s2, (if 8 < s1.1 then failP s1.2 else s1.2) = s2 := ⟨_, rfl⟩
  obtain ⟨s3, hs3⟩ : ∃ s3, takeP s2 s1.1 = s3 := ⟨_, rfl⟩
  rw [hs1, hs2, hs3] at e1
  · skip
    cases y8 : decide ((8 : Int) < (s1.1 : Int))
    all_goals
      first
        | rw [if_neg (show ¬ 8 < s1.1 from by have := of_decide_eq_false y8; omega)] at hs2
        | rw [if_pos (show 8 < s1.1 from by have := of_decide_eq_true y8; omega)] at hs2
      cases y0 : decide ((s3.1.length : Int) = 0)
      · rw [if_neg (show ¬ s3.1.length = 0 from by have := of_decide_eq_false y0; omega)] at e1
        have h0 : 0 < s3.1.length := by have := of_decide_eq_false y0; omega
        have hia : iaddrA 1 (enc s3.1) (.int .i64 0) = some (.cptr (Rec.c s3.1[0] ++ cl (s3.1.drop 1))) := ia_enc (i := 0) .i64 h0 rfl
        have hh := headD_0 h0
        have h00 : decide ((s3.1[0].toNat : Int) = 0) = decide (s3.1[0] = 0) := decide_eq_decide.2 ⟨fun h => UInt8.toNat_inj.1 (by simpa using h), fun h => by rw [h]; rfl⟩
        cases ye : decide ((getP s3.1).2 = 0)
        · rw [if_pos (.inl (of_decide_eq_false ye))] at e1
          simp -dsimp only [go_sem, F82, e_number, r_number, q1, q2, q3, hs1, hs2, hs3, set_oldS hs, set_old hs, y8, y0, ye, c_get01 h2, c_num02 h5, e1]
          exact Conv.rdr (List.prefix_append _ _) hid (fun i h => by simp [topIds, topIdsL, enc_top] at h) (rd_val _ _ _ _ _ (enc_rdS _ _) (enc_rdS _ _))
        · cases yh : decide (s3.1[0] = 0)
          · rw [if_neg (by rw [hh]; intro h; rcases h with h | h; exact h (of_decide_eq_true ye); exact (of_decide_eq_false yh) h)] at e1
            simp -dsimp only [go_sem, F82, e_number, r_number, q1, q2, q3, hs1, hs2, hs3, set_oldS hs, set_old hs, y8, y0, ye, c_get01 h2, c_num02 h5, e1, hia, h00, yh]
            exact Conv.rdr (List.prefix_append _ _) hid (fun i h => by simp [topIds, topIdsL, enc_top] at h) (rd_val _ _ _ _ _ (enc_rdS _ _) (enc_rdS _ _))
          · rw [if_pos (.inr (by rw [hh]; exact of_decide_eq_true yh))] at e1
            simp -dsimp only [go_sem, F82, e_number, r_number, q1, q2, q3, hs1, hs2, hs3, set_oldS hs, set_old hs, y8, y0, ye, c_get01 h2, c_num02 h5, e1, hia, h00, yh]
            exact Conv.rdr (List.prefix_append _ _) hid (fun i h => by simp [topIds, topIdsL, enc_top] at h) (rd_val _ _ _ _ _ (enc_rdS _ _) (enc_rdS _ _))
      · rw [if_pos (show s3.1.length = 0 from by have := of_decide_eq_true y0; omega)] at e1
        simp -dsimp only [go_sem, F82, e_number, r_number, q1, q2, q3, hs1, hs2, hs3, set_oldS hs, set_old hs, y8, y0, c_num02 h5, e1]
        exact Conv.rdr (List.prefix_append _ _) hid (fun i h => by simp [topIds, topIdsL, enc_top] at h) (rd_val _ _ _ _ _ (enc_rdS _ _) (enc_rdS _ _))
end Go.Proofs.YtaajlbbooneiiaaDoor.Avm
set_option linter.unusedVariables false
set_option linter.unusedSimpArgs false
set_option maxRecDepth 10000
namespace Go.Proofs.YtaajlbbooneiiaaDoor.Avm

@[go_sem] theorem rdr_g0 (s : Rdr) : (rdrL s)[0]? = some (enc s.1) := rfl
@[go_sem] theorem rdr_g1 (s : Rdr) : (rdrL s)[1]? = some (.int .i64 s.2) := rfl
/-- a row among the objects behind a store -/
def OwnR {α : Type} [Rec α] (b : Nat) (R : Store) (y : AV) (acc : List α) : Prop := (y = .nilS ∧ acc = []) ∨ ∃ j, y = .sl (b + j) 0 acc.length (Rec.sz α) ∧ R[j]? = some (.cells (cl acc))
theorem OwnR.own {α : Type} [Rec α] {S0 R : Store} {y : AV} {acc : List α} (h : OwnR S0.length R y acc) : OwnL S0 (S0 ++ R) y acc := by
  refine ⟨List.prefix_append _ _, cl_len acc, ?_⟩
  rcases h with ⟨rfl, rfl⟩ | ⟨j, rfl, hj⟩
  · exact .inl ⟨rfl, rfl⟩
  · exact .inr ⟨S0.length + j, by omega, rfl, by rw [get_new]; exact hj⟩
theorem OwnR.more {α : Type} [Rec α] {b : Nat} {R : Store} {y : AV} {acc : List α} (h : OwnR b R y acc) (L : List AObj) : OwnR b (R ++ L) y acc :=
  h.imp (fun h => h) fun ⟨j, h1, h2⟩ => ⟨j, h1, get_old h2 L⟩
theorem OwnL.ownR {α : Type} [Rec α] {S0 R : Store} {y : AV} {acc : List α} (h : OwnL S0 (S0 ++ R) y acc) : OwnR S0.length R y acc := by
  obtain ⟨_, _, ⟨rfl, h⟩ | ⟨id, h1, rfl, h2⟩⟩ := h
  · exact .inl ⟨rfl, List.eq_nil_of_length_eq_zero h⟩
  · refine .inr ⟨id - S0.length, by rw [show S0.length + (id - S0.length) = id by omega], ?_⟩
    rw [show id = S0.length + (id - S0.length) by omega, get_new] at h2; exact h2
theorem OwnL.cells1 {α : Type} [Rec α] {S0 T : Store} {x : AV} {l : List α} (h : OwnL S0 T x l) : x.cells = [x] := by
  obtain ⟨h1, h2, ⟨rfl, h3⟩ | ⟨id, q1, rfl, q3⟩⟩ := h <;> rfl
theorem count_lt (s : Rdr) (n : Nat) (hn : n ≤ 8) : (countP s n).1 < 256 ^ n := by
  have hl : (takeP s n).1.length ≤ n := by
    unfold takeP; split
    · split
      · simp
      · simp only [List.length_take]; omega
    · simp
  have hp : 0 < 256 ^ n := Nat.pow_pos (by decide)
  show ((getP (takeP s n).1).1).toNat < _
  unfold getP; split
  · exact hp
  · split
    · exact hp
    · split
      · exact hp
      · have := ofBE_lt (takeP s n).1
        have h2 : 256 ^ (takeP s n).1.length ≤ 256 ^ n := Nat.pow_le_pow_right (by decide) hl
        simp only [Int.toNat_natCast]; omega
theorem take_len (s : Rdr) (n : Nat) : (takeP s n).1.length ≤ n := by
  unfold takeP; split
  · split
    · simp
    · simp only [List.length_take]; omega
  · simp
theorem take_one {s : Rdr} (h : (takeP s 1).2.2 = 0) : 0 < (takeP s 1).1.length := by
  unfold takeP at h ⊢
  split at h
  · rename_i h0; rw [if_pos h0]
    split at h
    · cases h
    · rename_i h1; rw [if_neg h1]; simp only [List.length_take]; omega
  · rename_i h0; exact absurd h h0
theorem items_stop (f : Rdr → Val × Rdr) (n : Nat) (acc : List Val) {s : Rdr} (h : s.2 ≠ 0) : itemsP f n acc s = (acc, s) := by
  cases n with
  | zero => rfl
  | succ n => rw [itemsP, if_neg h]
theorem fail_ne (s : Rdr) : (failP s).2 ≠ 0 := by unfold failP; split <;> simp_all
theorem value_e {n : Nat} {s : Rdr} (h : (takeP s 1).2.2 ≠ 0) : valueP n s = (nul, (takeP s 1).2) := by
  unfold valueP; simp only; rw [if_pos h]
theorem value_1 {n : Nat} {s : Rdr} (h : (takeP s 1).2.2 = 0) (k : ((takeP s 1).1.headD 0).toNat = 1) : valueP n s = numberP (takeP s 1).2 := by
  unfold valueP; simp only; rw [if_neg (by simpa using h), if_pos k]
theorem value_2 {n : Nat} {s : Rdr} (h : (takeP s 1).2.2 = 0) (k : ((takeP s 1).1.headD 0).toNat = 2) : valueP n s = (.mk 2 0 (takeP (countP (takeP s 1).2 3).2 (countP (takeP s 1).2 3).1).1 [], (takeP (countP (takeP s 1).2 3).2 (countP (takeP s 1).2 3).1).2) := by
  unfold valueP; simp only; rw [if_neg (by simpa using h), if_neg (by omega), if_pos k]
theorem value_3 {n : Nat} {s : Rdr} (h : (takeP s 1).2.2 = 0) (k : ((takeP s 1).1.headD 0).toNat = 3) {c : Nat × Rdr} (hc : countP (takeP s 1).2 2 = c) {s1 : Rdr} (h1 : (if 4096 < c.1 ∨ n = 0 then failP c.2 else c.2) = s1) :
    valueP n s = (.mk 3 0 [] (itemsP (valueP (n - 1)) c.1 [] s1).1, (itemsP (valueP (n - 1)) c.1 [] s1).2) := by
  subst hc; subst h1
  cases n with
  | zero =>
    rw [if_pos (.inr rfl), items_stop _ _ _ (fail_ne _)]
    unfold valueP; simp only; rw [if_neg (by simpa using h), if_neg (by omega), if_neg (by omega), if_pos k]
  | succ n =>
    unfold valueP; simp only; rw [if_neg (by simpa using h), if_neg (by omega), if_neg (by omega), if_pos k]
    simp only [Nat.add_sub_cancel, Nat.succ_ne_zero, or_false, Nat.add_one_ne_zero]
theorem value_x {n : Nat} {s : Rdr} (h : (takeP s 1).2.2 = 0) (k1 : ((takeP s 1).1.headD 0).toNat ≠ 1) (k2 : ((takeP s 1).1.headD 0).toNat ≠ 2) (k3 : ((takeP s 1).1.headD 0).toNat ≠ 3) : valueP n s = (nul, failP (takeP s 1).2) := by
  unfold valueP; simp only; rw [if_neg (by simpa using h), if_neg k1, if_neg k2, if_neg k3]
theorem okB_value {E : Env} {d : Nat} (h0 : E.prim 66 = some fun _ => p_value d) (h1 : E.prim 81 = some fun _ => p_take) (h2 : E.prim 82 = some fun _ => p_number)
    (h3 : E.prim 83 = some fun _ => p_count) (h4 : E.prim 84 = some fun _ => p_fail) (h5 : E.prim 42 = some fun _ => p_raw02) (h6 : E.prim 40 = some fun _ => p_of02)
    (h7 : E.prim 39 = some fun _ => primO (fun l : List UInt8 => [enc l]) (ownRow 1000000000000)) : OkMB E F66 rdrL e_value (gdM (k_value (d + 1)) r_value) := by
  refine OkMB.code (fun _ => rfl) fun s n S id hs ⟨hn, hn16⟩ => ?_
  have hid := (List.getElem?_eq_some_iff.1 hs).1
  have q1 : ∀ (l : List AObj) (K : AV → Store → Prop) (q : Dm K), SpD E 81 [.ptr id 0, .int .i64 1] (S ++ l) K q = K (enc (takeP s 1).1) ((S ++ l).set id (.cells (rdrL (takeP s 1).2))) := fun l K q => c_take h1 (get_old hs l) 1
  have q2 := fun (s' : Rdr) (l : List AObj) (K : AV → Store → Prop) (q : Dm K) => c_fail h4 (S := S.set id (.cells (rdrL s')) ++ l) (get_oldS hs l) (K := K) (d := q)
  have q3 := fun (s' : Rdr) (n : Nat) (l : List AObj) (K : AV → Store → Prop) (q : Dm K) => c_take h1 (S := S.set id (.cells (rdrL s')) ++ l) (get_oldS hs l) n (K := K) (d := q)
  have q4 := fun (s' : Rdr) (l : List AObj) (K : AV → Store → Prop) (q : Dm K) => c_number h2 (S := S.set id (.cells (rdrL s')) ++ l) (get_oldS hs l) (K := K) (d := q)
  have q5 : ∀ (s' : Rdr) (l : List AObj) (K : AV → Store → Prop) (q : Dm K), SpD E 83 [.ptr id 0, .int .i64 3] (S.set id (.cells (rdrL s')) ++ l) K q = K (.int .i64 (countP s' 3).1) ((S.set id (.cells (rdrL s')) ++ l).set id (.cells (rdrL (countP s' 3).2))) := fun s' l K q => c_count h3 (get_oldS hs l) 3
  have q6 : ∀ (s' : Rdr) (l : List AObj) (K : AV → Store → Prop) (q : Dm K), SpD E 83 [.ptr id 0, .int .i64 2] (S.set id (.cells (rdrL s')) ++ l) K q = K (.int .i64 (countP s' 2).1) ((S.set id (.cells (rdrL s')) ++ l).set id (.cells (rdrL (countP s' 2).2))) := fun s' l K q => c_count h3 (get_oldS hs l) 2
  have g1 := fun (s' : Rdr) (l : List AObj) => get_oldS (x := .cells (rdrL s')) hs l
  have fnul : ∀ (s' : Rdr) (l : List AObj), Conv S (S.set id (.cells (rdrL s')) ++ l) (.agg [.int .i64 0, .int .i64 0, .nilS, .nilS]) (S.set id (.cells (rdrL s'))) (.agg (valL nul)) := fun s' l =>
    Conv.rdr (List.prefix_append _ _) hid (fun i h => by simp [topIds, topIdsL] at h) (rd_val _ _ _ [] [] rfl rfl)
  obtain ⟨k, hk⟩ : ∃ k, takeP s 1 = k := ⟨_, rfl⟩
  cases ye : decide (k.2.2 = 0)
  · have hv : valueP n s = (nul, k.2) := by rw [← hk]; exact value_e (by rw [hk]; exact of_decide_eq_false ye)
    simp -dsimp only [go_sem, F66, e_value, r_value, q1, hk, set_old hs, set_oldS hs, g1, ye, hv]
    exact fnul _ _
  have ye' := of_decide_eq_true ye
  have hk1 : 0 < k.1.length := by rw [← hk]; exact take_one (by rw [hk]; exact ye')
  have hh := headD_0 hk1
  have hia : iaddrA 1 (enc k.1) (.int .i64 0) = some (.cptr (Rec.c k.1[0] ++ cl (k.1.drop 1))) := ia_enc (i := 0) .i64 hk1 rfl
  have hw : IntKind.i64.wrap (k.1[0].toNat : Int) = (k.1[0].toNat : Int) := by have := k.1[0].toNat_lt; exact wrap64 (by omega) (by omega)
  have hkk : (takeP s 1).2.2 = 0 := by rw [hk]; exact ye'
  have hd0 : ((takeP s 1).1.headD 0).toNat = k.1[0].toNat := by rw [hk, hh]
  cases y1 : decide ((k.1[0].toNat : Int) = 1)
  rotate_left
  · have hv : valueP n s = numberP k.2 := by rw [← hk]; exact value_1 hkk (by rw [hd0]; have := of_decide_eq_true y1; omega)
    simp -dsimp only [go_sem, F66, e_value, r_value, q1, hk, set_old hs, set_oldS hs, g1, ye, hia, hw, y1, q4, hv]
    exact Conv.rdr (List.prefix_append _ _) hid (fun i h => by simp [topIds, topIdsL, enc_top] at h) (rd_val _ _ _ _ _ (enc_rdS _ _) (enc_rdS _ _))
  have y1' := of_decide_eq_false y1
  cases y2 : decide ((k.1[0].toNat : Int) = 2)
  rotate_left
  · obtain ⟨c, hc⟩ : ∃ c, countP k.2 3 = c := ⟨_, rfl⟩
    obtain ⟨t, ht⟩ : ∃ t, takeP c.2 c.1 = t := ⟨_, rfl⟩
    have hv : valueP n s = (.mk 2 0 t.1 [], t.2) := by rw [← ht, ← hc, ← hk]; exact value_2 hkk (by rw [hd0]; have := of_decide_eq_true y2; omega)
    have htl : t.1.length ≤ 1000000000000 := by
      have h1 := take_len c.2 c.1
      have h2 := count_lt k.2 3 (by decide)
      rw [ht] at h1; rw [hc] at h2; omega
    by_cases h0 : t.1.length = 0
    · have e0 : t.1 = [] := List.eq_nil_of_length_eq_zero h0
      have q8 := fun (S : Store) (K : AV → Store → Prop) (q : Dm K) => call_clone0 h7 (S := S) (K := K) (d := q)
      have q9 : ∀ (T : Store) (K : AV → Store → Prop) (q : Dm K), SpD E 42 [.csl [] 0] T K q = K (.agg (valL (.mk 2 0 [] []))) T := fun T K q => c_raw02 h5 []
      rw [e0] at hv
      simp -dsimp only [go_sem, F66, e_value, r_value, q1, hk, set_old hs, set_oldS hs, g1, ye, hia, hw, y1, y2, q5, hc, q3, ht, hv, e0, q8, q9]
      exact Conv.rdr (List.prefix_append _ _) hid (fun i h => by simp [topIds, topIdsL, enc_top] at h) (rd_val _ _ _ _ _ (enc_rdS _ _) (enc_rdS _ _))
    · have q8 := fun (S : Store) (K : AV → Store → Prop) (q : Dm K) => call_clone h7 t.1 htl h0 (S := S) (K := K) (d := q)
      have q9 : ∀ (X o : AObj) (K : AV → Store → Prop) (q : Dm K), SpD E 42 [.sl (S.length + 1) 0 t.1.length 1] (S.set id X ++ [o, .cells (cl t.1)]) K q = K (.agg (valL (.mk 2 0 t.1 []))) (S.set id X ++ [o, .dead]) := fun X o K q => by
        have := c_raw02' h5 (S := S.set id X ++ [o, .cells (cl t.1)]) (x0 := .sl (S.length + 1) 0 t.1.length 1) (b := t.1) (rd_own (rest := []) (by rw [get_newS, List.append_nil]; rfl) rfl rfl) (K := K) (d := q)
        rw [this]
        simp only [topIdsL, topIds, List.append_nil, killL_cons, killL_nil, set_newS, List.set_cons_succ, List.set_cons_zero]
      simp -dsimp only [go_sem, F66, e_value, r_value, q1, hk, set_old hs, set_oldS hs, g1, ye, hia, hw, y1, y2, q5, hc, q3, ht, hv, q8, q9]
      exact Conv.rdr (List.prefix_append _ _) hid (fun i h => by simp [topIds, topIdsL, enc_top] at h) (rd_val _ _ _ _ _ (enc_rdS _ _) (enc_rdS _ _))
  have y2' := of_decide_eq_false y2
  cases y3 : decide ((k.1[0].toNat : Int) = 3)
  · have y3' := of_decide_eq_false y3
    have hv : valueP n s = (nul, failP k.2) := by rw [← hk]; exact value_x hkk (by rw [hd0]; omega) (by rw [hd0]; omega) (by rw [hd0]; omega)
    simp -dsimp only [go_sem, F66, e_value, r_value, q1, hk, set_old hs, set_oldS hs, g1, ye, hia, hw, y1, y2, y3, q2, hv]
    exact fnul _ _
  obtain ⟨c, hc⟩ : ∃ c, countP k.2 2 = c := ⟨_, rfl⟩
  obtain ⟨s1, hs1⟩ : ∃ s1, (if 4096 < c.1 ∨ n = 0 then failP c.2 else c.2) = s1 := ⟨_, rfl⟩
  have hv := value_3 (n := n) (c := c) (s1 := s1) hkk (by rw [hd0]; have := of_decide_eq_true y3; omega) (by rw [hk, hc]) hs1
  have hn0 : s1.2 = 0 → n ≠ 0 := fun h e => by rw [if_pos (.inr e)] at hs1; exact fail_ne _ (hs1 ▸ h)
  have q10 : ∀ (s' : Rdr) (l : List AObj) (K : AV → Store → Prop) (q : Dm K), n ≠ 0 → SpD E 66 [.ptr id 0, .int .i64 ((n - 1 : Nat) : Int)] (S.set id (.cells (rdrL s')) ++ l) K q = K (.agg (valL (valueP (n - 1) s').1)) ((S.set id (.cells (rdrL s')) ++ l).set id (.cells (rdrL (valueP (n - 1) s').2))) := fun s' l K q h => c_value h0 (get_oldS hs l) (n - 1) ⟨by omega, by omega⟩
  have hcl := count_lt k.2 2 (by decide)
  rw [hc] at hcl
  have q11 := fun (T : Store) => fun (K : AV → Store → Prop) (q : Dm K) => c_of02 h6 .nilS rfl (S := T) (K := K) (d := q)
  cases y4 : decide ((4096 : Int) < (c.1 : Int)) <;> cases y5 : decide ((n : Int) = 0)
  all_goals
    first
      | rw [if_pos (by have := of_decide_eq_true y4; omega)] at hs1
      | rw [if_pos (by have := of_decide_eq_true y5; omega)] at hs1
      | rw [if_neg (by have := of_decide_eq_false y4; have := of_decide_eq_false y5; omega)] at hs1
    simp -dsimp only [go_sem, F66, e_value, r_value, q1, hk, set_old hs, set_oldS hs, g1, ye, hia, hw, y1, y2, y3, y4, y5, q6, hc, q2, hs1, hv, q11]
    refine Ex.while (fun m g T => ∃ (i : Nat) (s' : Rdr) (acc : List Val) (y : AV) (R : Store), m = c.1 - i ∧ i ≤ c.1 ∧ g 0 = .ptr id 0 ∧ g 1 = .int .i64 n ∧ g 4 = .ptr S.length 0 ∧ g 6 = .int .i64 c.1 ∧ g 7 = .ptr (S.length + 1) 0 ∧ g 8 = .int .i64 i ∧
      T = S.set id (.cells (rdrL s')) ++ (.cells [.int .i64 0, .int .i64 0, .nilS, .nilS] :: .cells [.int .i64 3, .int .i64 0, enc ([] : List UInt8), y] :: R) ∧ OwnR (S.length + 2) R y acc ∧ acc.length ≤ i ∧ (s'.2 = 0 → n ≠ 0) ∧
      itemsP (valueP (n - 1)) (c.1 - i) acc s' = itemsP (valueP (n - 1)) c.1 [] s1) c.1 ⟨0, s1, [], .nilS, [], rfl, by omega, rfl, rfl, rfl, rfl, rfl, rfl, rfl, .inl ⟨rfl, rfl⟩, by simp, hn0, rfl⟩ ?_
    rintro m g T ⟨i, s', acc, y, R, rfl, hi, g0, g1', g4, g6, g7, g8, rfl, hR, hal, hn', hit⟩
    have fin1 : itemsP (valueP (n - 1)) c.1 [] s1 = (acc, s') → Conv S (S.set id (.cells (rdrL s')) ++ (.cells [.int .i64 3, .int .i64 0, enc ([] : List UInt8), y] :: .cells [.int .i64 3, .int .i64 0, enc ([] : List UInt8), y] :: R)) (.agg [.int .i64 3, .int .i64 0, enc ([] : List UInt8), y])
        (S.set id (.cells (rdrL (itemsP (valueP (n - 1)) c.1 [] s1).2))) (.agg (valL (.mk 3 0 [] (itemsP (valueP (n - 1)) c.1 [] s1).1))) := fun h => by
      rw [h]
      have hO : OwnL (S.set id (.cells (rdrL s')) ++ [.cells [.int .i64 3, .int .i64 0, enc ([] : List UInt8), y], .cells [.int .i64 3, .int .i64 0, enc ([] : List UInt8), y]]) _ y acc := OwnR.own (R := R) (by simpa using hR)
      have h1 := hO.ids
      have h2 := hO.rd
      simp only [List.append_assoc, List.cons_append, List.nil_append] at h2
      refine Conv.rdr (List.prefix_append _ _) hid (fun i h => ?_) (rd_val _ _ _ [] _ (enc_rdS _ _) h2)
      simp only [topIds, topIdsL, enc_top, List.nil_append, List.append_nil] at h
      have := h1 i h
      simp at this; omega
    cases yl : decide ((i : Int) < (c.1 : Int))
    · have hic : c.1 - i = 0 := by have := of_decide_eq_false yl; omega
      rw [hic] at hit
      simp -dsimp only [go_sem, g0, g1', g4, g6, g7, g8, yl, F66, r_value, hv]
      exact fin1 hit.symm
    cases yz : decide (s'.2 = 0)
    · rw [items_stop _ _ _ (of_decide_eq_false yz)] at hit
      simp -dsimp only [go_sem, g0, g1', g4, g6, g7, g8, yl, yz, g1, F66, r_value, hv]
      exact fin1 hit.symm
    · have hlt : i < c.1 := by have := of_decide_eq_true yl; omega
      have hnn := hn' (of_decide_eq_true yz)
      have w1 : IntKind.i64.wrap ((n : Int) - 1) = ((n - 1 : Nat) : Int) := by rw [wrap64 (by omega) (by omega)]; omega
      have w2 : IntKind.i64.wrap ((i : Int) + 1) = ((i + 1 : Nat) : Int) := wrapS (by omega)
      rw [show c.1 - i = (c.1 - (i + 1)) + 1 by omega, itemsP, if_pos (of_decide_eq_true yz)] at hit
      simp -dsimp only [go_sem, g0, g1', g4, g6, g7, g8, yl, yz, g1]
      refine ExF.intro ?_
      have q12 := fun (s' : Rdr) (l : List AObj) (K : AV → Store → Prop) (q : Dm K) => q10 s' l K q hnn
      simp -dsimp only [go_sem, g0, g1', g4, g6, g7, g8, w1, q12, set_oldS hs]
      have hO : OwnL (S.set id (.cells (rdrL (valueP (n - 1) s').2)) ++ [.cells [.int .i64 0, .int .i64 0, .nilS, .nilS], .cells [.int .i64 3, .int .i64 0, enc ([] : List UInt8), y]]) _ y acc := OwnR.own (R := R) (by simpa using hR)
      simp only [List.append_assoc, List.cons_append, List.nil_append] at hO
      refine OwnL.app hO rfl (el_enc _ rfl) (by simp only [List.length_singleton]; omega) fun y' T' hO' hK hi' => ?_
      obtain ⟨R', rfl⟩ := hO'.1
      have hR' := hO'.ownR
      have yc := hO'.cells1
      simp only [List.append_assoc, List.cons_append, List.nil_append]
      simp -dsimp only [go_sem, g0, g1', g4, g6, g7, g8, w2, yc]
      refine ⟨⟨c.1 - (i + 1), by omega, i + 1, _, _, y', R', rfl, by omega, rfl, rfl, ?_, ?_, fun _ => hnn, hit⟩, fl_ld rfl rfl rfl rfl (flLd_n _ _ _ _ _ _ ?_)⟩
      · simpa using hR'
      · simp; omega
      · simp -dsimp only [go_sem, g7]
theorem ok_decode {E : Env} (hp : E.prim 48 = none) (hf : E.F 48 = some F48) (h0 : E.prim 66 = some fun _ => p_value 17) : OkG E 48 e_decode (gd k_decode r_decode) := by
  refine OkG.code hp hf (fun _ => rfl) fun b S _ => ?_
  have fnul : ∀ (T : Store) (e : Int), Conv S (S ++ T) (.tup [.agg [.int .i64 0, .int .i64 0, .nilS, .nilS], .int .i64 e]) S (.tup [.agg (valL nul), .int .i64 e]) := fun T e =>
    conv_pair (List.prefix_append _ _) (fun i h => by simp [topIds, topIdsL] at h) (rd_val _ _ _ [] [] rfl rfl)
  cases y1 : decide ((1048576 : Int) < (b.length : Int))
  rotate_left
  · have hd : decodeP b = (nul, 3) := if_pos (by have := of_decide_eq_true y1; omega)
    simp -dsimp only [go_sem, F48, e_decode, r_decode, y1, hd]
    exact fnul _ _
  · have y1' := of_decide_eq_false y1
    obtain ⟨r, hr⟩ : ∃ r, valueP 16 (b, 0) = r := ⟨_, rfl⟩
    have hd : decodeP b = (if (if r.2.2 = 0 ∧ 0 < r.2.1.length then 12 else r.2.2) ≠ 0 then (nul, if r.2.2 = 0 ∧ 0 < r.2.1.length then 12 else r.2.2) else (r.1, 0)) := by
      unfold decodeP; rw [if_neg (by omega)]; simp only [hr]
    have q1 : ∀ (l : List AObj) (K : AV → Store → Prop) (q : Dm K), SpD E 66 [.ptr (S.length + 1) 0, .int .i64 16] (S ++ [.cells [.int .i64 0, .int .i64 0, .nilS, .nilS], .cells [enc b, .int .i64 0]]) K q
        = K (.agg (valL r.1)) (S ++ [.cells [.int .i64 0, .int .i64 0, .nilS, .nilS], .cells (rdrL r.2)]) := fun l K q => by
      have := c_value h0 (S := S ++ [.cells [.int .i64 0, .int .i64 0, .nilS, .nilS], .cells [enc b, .int .i64 0]]) (id := S.length + 1) (s := (b, 0)) (get_new _ _ _) 16 ⟨by decide, by decide⟩ (K := K) (d := q)
      rw [hr, set_new] at this; exact this
    cases ye : decide (r.2.2 = 0)
    · have ye' := of_decide_eq_false ye
      have hin : (if r.2.2 = 0 ∧ 0 < r.2.1.length then (12 : Int) else r.2.2) = r.2.2 := if_neg fun h => ye' h.1
      rw [hin, if_pos ye'] at hd
      simp -dsimp only [go_sem, F48, e_decode, r_decode, y1, q1 [], ye, hd]
      refine ExF.intro ?_
      simp -dsimp only [go_sem, F48, ye, r_decode, hd]
      refine ⟨fnul _ _, fl_ld rfl rfl rfl rfl (flLd_n _ _ _ _ _ _ ?_)⟩
      simp -dsimp only [go_sem]
    · have ye' := of_decide_eq_true ye
      cases yl : decide ((0 : Int) < (r.2.1.length : Int))
      · have hin : (if r.2.2 = 0 ∧ 0 < r.2.1.length then (12 : Int) else r.2.2) = r.2.2 := if_neg fun h => by have := of_decide_eq_false yl; omega
        rw [hin, if_neg (fun h => h ye')] at hd
        simp -dsimp only [go_sem, F48, e_decode, r_decode, y1, q1 [], ye, yl, hd]
        exact conv_pair (List.prefix_append _ _) (fun i h => by simp [topIds, topIdsL, enc_top] at h) (rd_val _ _ _ _ _ (enc_rdS _ _) (enc_rdS _ _))
      · have hc : r.2.2 = 0 ∧ 0 < r.2.1.length := ⟨ye', by have := of_decide_eq_true yl; omega⟩
        have hin : (if r.2.2 = 0 ∧ 0 < r.2.1.length then (12 : Int) else r.2.2) = 12 := if_pos hc
        rw [hin, if_pos (by decide)] at hd
        simp -dsimp only [go_sem, F48, e_decode, r_decode, y1, q1 [], ye, yl, hd, rdrL]
        refine ExF.intro ?_
        simp -dsimp only [go_sem, F48, ye, yl, r_decode, hd]
        refine ⟨fnul _ _, fl_ld rfl rfl rfl rfl (flLd_n _ _ _ _ _ _ ?_)⟩
        simp -dsimp only [go_sem]
theorem ok_fields {E : Env} (hp : E.prim 54 = none) (hf : E.F 54 = some F54) : OkG E 54 e_fields (gd k_fields r_fields) := by
  refine OkG.code hp hf (fun _ => rfl) fun ⟨v, ks⟩ S ⟨hks, hvl⟩ => ?_
  have fin0 : ∀ (T : Store), Conv S (S ++ T) (.tup [.nilS, .bool false]) S (.tup [enc ([] : List Val), .bool false]) := fun T =>
    Conv.good (List.prefix_append _ _) (fun i h => by simp [topIds, topIdsL] at h) rfl
  cases y1 : decide (v.kind = 3)
  · have hq : fieldsP v ks = ([], false) := if_neg fun h => of_decide_eq_false y1 h.1
    simp -dsimp only [go_sem, F54, e_fields, r_fields, y1, hq]
    exact fin0 _
  cases y2 : decide ((v.list.length : Int) = (ks.length : Int))
  · have hq : fieldsP v ks = ([], false) := if_neg fun h => of_decide_eq_false y2 (by rw [← h.2]; simp)
    simp -dsimp only [go_sem, F54, e_fields, r_fields, y1, y2, hq]
    exact fin0 _
  have hll : v.list.length = ks.length := by have := of_decide_eq_true y2; omega
  simp -dsimp only [go_sem, F54, e_fields, r_fields, y1, y2]
  refine Ex.range (n := ks.length) (fun i g T => g 2 = .ptr S.length 0 ∧ g 19 = enc ks ∧ (∃ R, T = S ++ (.cells (valL v) :: R)) ∧ (v.list.map (·.kind)).take i = ks.take i) (by decide) (by omega) rfl rfl ⟨rfl, rfl, ⟨[], rfl⟩, rfl⟩ ?_ ?_
  · rintro i g T hi gi gn ⟨g2, g19, ⟨R, rfl⟩, hI⟩
    have hiv : i < v.list.length := by omega
    have hiv' : i < (v.list.map (·.kind)).length := by simpa using hiv
    have hcmp : ∀ (Q : Prop), (ks[i] = v.list[i].kind → Q) → (ks[i] ≠ v.list[i].kind → Q) → Q := fun Q a b => if h : _ then a h else b h
    cases y3 : decide (v.list[i].kind = ks[i])
    · have hq : fieldsP v ks = ([], false) := if_neg fun h => of_decide_eq_false y3 (by
        have := congrArg (fun l : List Int => l[i]?) h.2
        simp only [List.getElem?_map, List.getElem?_eq_getElem hi, List.getElem?_eq_getElem hiv, Option.map_some, Option.some.injEq] at this; exact this)
      cases k1 : decide (ks[i] = 1) <;> cases k2 : decide (ks[i] = 2) <;>
        simp -dsimp only [go_sem, gi, gn, g2, g19, ia_enc .i64 hi, ld_enc, ia_enc .i64 hiv, y3, k1, k2, F54, r_fields, hq]
      all_goals exact fin0 _
    · have hIn : (v.list.map (·.kind)).take (i + 1) = ks.take (i + 1) := by
        rw [List.take_succ_eq_append_getElem hiv', List.take_succ_eq_append_getElem hi, hI, List.getElem_map, of_decide_eq_true y3]
      cases k1 : decide (ks[i] = 1) <;> cases k2 : decide (ks[i] = 2) <;>
        simp -dsimp only [go_sem, gi, gn, g2, g19, ia_enc .i64 hi, ld_enc, ia_enc .i64 hiv, y3, k1, k2, hIn]
      all_goals exact ⟨R, rfl⟩
  · rintro g T gi ⟨g2, g19, ⟨R, rfl⟩, hI⟩
    rw [List.take_length, List.take_of_length_le (by simp [hll])] at hI
    have hq : fieldsP v ks = (v.list, true) := if_pos ⟨of_decide_eq_true y1, hI⟩
    simp -dsimp only [go_sem, g2, F54, r_fields, hq]
    exact Conv.good (List.prefix_append _ _) (fun i h => by simp [topIds, topIdsL, enc_top] at h) (by simp [rdS, rdSL, enc_rdS, rd0])
end Go.Proofs.YtaajlbbooneiiaaDoor.Avm
set_option linter.unusedVariables false
set_option linter.unusedSimpArgs false
set_option maxRecDepth 10000
namespace Go.Proofs.YtaajlbbooneiiaaDoor.Avm

/-! ### numbers -/
theorem leN_last : ∀ s m, leN (s + 1) m = leN s m ++ [UInt8.ofNat (m / 256 ^ s % 256)]
  | 0, m => by simp [leN]
  | s + 1, m => by
    rw [leN, leN_last s (m / 256), leN, Nat.div_div_eq_div_mul, Nat.pow_succ, Nat.mul_comm (256 ^ s), List.cons_append]
theorem leN_zero : ∀ t, leN t 0 = List.replicate t 0
  | 0 => rfl
  | t + 1 => by rw [leN, show 0 / 256 = 0 from rfl, leN_zero t, List.replicate_succ]; rfl
theorem leN_pad : ∀ s t m, m < 256 ^ s → leN (s + t) m = leN s m ++ List.replicate t 0
  | 0, t, m, h => by
    have : m = 0 := by simpa using h
    subst this; rw [Nat.zero_add, leN_zero]; rfl
  | s + 1, t, m, h => by
    rw [show s + 1 + t = (s + t) + 1 by omega, leN, leN_pad s t (m / 256) (by rw [Nat.pow_succ] at h; omega), leN, List.cons_append]
theorem leN_ofBE : ∀ n (x : List UInt8), x.length = n → leN n (ofBE x) = x.reverse
  | 0, x, h => by have := List.eq_nil_of_length_eq_zero h; subst this; rfl
  | n + 1, x, h => by
    obtain ⟨a, m, rfl⟩ : ∃ a m, x = m ++ [a] := ⟨x.getLast (by rintro rfl; simp at h), x.dropLast, (List.dropLast_concat_getLast _).symm⟩
    have ha := a.toNat_lt
    rw [ofBE_snoc, leN, show (ofBE m * 256 + a.toNat) % 256 = a.toNat by omega, show (ofBE m * 256 + a.toNat) / 256 = ofBE m by omega, leN_ofBE n m (by simpa using h)]
    simp
theorem ofBE_leN : ∀ s m, m < 256 ^ s → ofBE (leN s m).reverse = m
  | 0, m, h => by have : m = 0 := by simpa using h
                  subst this; rfl
  | s + 1, m, h => by
    rw [leN, List.reverse_cons, ofBE_snoc, ofBE_leN s (m / 256) (by rw [Nat.pow_succ] at h; omega), UInt8.toNat_ofNat']
    omega
theorem put_eq {m s : Nat} (h0 : 1 ≤ s) (h8 : s ≤ 8) (hm : m ≤ 4611686018427387904) (h : m < 256 ^ s) : putP (m : Int) (s : Int) = ((leN s m).reverse, 0) := by
  have : lowP (m : Int) (s : Int) = (leN s m, 0) := by
    unfold lowP; rw [if_pos ⟨by omega, by omega, by omega, by omega, by simpa using h⟩]; simp
  rw [putP, this]
theorem lt8 {m : Nat} (hm : m ≤ 4611686018427387904) : m < 256 ^ 8 := by
  have : (256 : Nat) ^ 8 = 18446744073709551616 := by decide
  omega
theorem plain_of {m s : Nat} (hm : m ≤ 4611686018427387904) (hs : s ≤ 8) (h1 : m < 256 ^ s) (h2 : s = 0 ∨ 0 < m / 256 ^ (s - 1)) : plainP (m : Int) = (leN s m).reverse := by
  have e : putP (m : Int) 8 = ((leN 8 m).reverse, 0) := put_eq (s := 8) (by decide) (by decide) hm (lt8 hm)
  rw [plainP, e, show 8 = s + (8 - s) by omega, leN_pad s (8 - s) m h1, List.reverse_append, List.reverse_replicate]
  have hd : ∀ (t : Nat) (l : List UInt8), (List.replicate t 0 ++ l).dropWhile (· == 0) = l.dropWhile (· == 0) := fun t l => by
    induction t with
    | zero => rfl
    | succ t ih => rw [List.replicate_succ, List.cons_append, List.dropWhile_cons]; simp
  rw [hd]
  cases s with
  | zero => rfl
  | succ s =>
    rw [leN_last, List.reverse_append, List.reverse_singleton, List.singleton_append, List.dropWhile_cons]
    have hlt : m / 256 ^ s < 256 := by
      rw [Nat.pow_succ] at h1
      exact Nat.div_lt_of_lt_mul h1
    have h3 : 0 < m / 256 ^ s := h2.resolve_left (by omega)
    have : (UInt8.ofNat (m / 256 ^ s % 256) == 0) = false := by
      rw [beq_eq_false_iff_ne, ne_eq]
      intro h
      have := congrArg UInt8.toNat h
      rw [UInt8.toNat_ofNat'] at this
      simp at this; omega
    rw [this]; rfl
def digF : Nat → Nat → Nat
  | 0, _ => 0
  | k + 1, m => if m = 0 then 0 else digF k (m / 256) + 1
theorem dig_spec : ∀ k m, m < 256 ^ k → digF k m ≤ k ∧ m < 256 ^ digF k m ∧ (digF k m = 0 ∨ 0 < m / 256 ^ (digF k m - 1))
  | 0, m, h => ⟨Nat.le_refl _, h, .inl rfl⟩
  | k + 1, m, h => by
    unfold digF
    by_cases h0 : m = 0
    · rw [if_pos h0]; subst h0; exact ⟨by omega, by decide, .inl rfl⟩
    · rw [if_neg h0]
      obtain ⟨h1, h2, h3⟩ := dig_spec k (m / 256) (by rw [Nat.pow_succ] at h; omega)
      refine ⟨by omega, ?_, .inr ?_⟩
      · rw [Nat.pow_succ]; omega
      · rw [Nat.add_sub_cancel]
        rcases h3 with h3 | h3
        · rw [h3]; simp; omega
        · cases hd : digF k (m / 256) with
          | zero => simp; omega
          | succ d =>
            rw [hd, Nat.add_sub_cancel, Nat.div_div_eq_div_mul, Nat.mul_comm, ← Nat.pow_succ] at h3
            exact h3
/-- a number's plain bytes -/
theorem plain_spec {m : Nat} (hm : m ≤ 4611686018427387904) : ∃ s, s ≤ 8 ∧ m < 256 ^ s ∧ (s = 0 ∨ 0 < m / 256 ^ (s - 1)) ∧ plainP (m : Int) = (leN s m).reverse := by
  obtain ⟨h1, h2, h3⟩ := dig_spec 8 m (lt8 hm)
  exact ⟨_, h1, h2, h3, plain_of hm h1 h2 h3⟩
theorem plain_nil {m : Nat} (hm : m ≤ 4611686018427387904) (h : (plainP (m : Int)).length = 0) : m = 0 := by
  obtain ⟨s, h1, h2, h3, h4⟩ := plain_spec hm
  rw [h4, List.length_reverse, leN_len] at h
  subst h; simpa using h2
theorem plain_ofBE {m : Nat} (hm : m ≤ 4611686018427387904) : ofBE (plainP (m : Int)) = m := by
  obtain ⟨s, h1, h2, h3, h4⟩ := plain_spec hm
  rw [h4, ofBE_leN s m h2]
theorem plain_get {m : Nat} (hm : m ≤ 4611686018427387904) (h : (plainP (m : Int)).length ≠ 0) : getP (plainP (m : Int)) = ((m : Int), 0) := by
  have := plain_len (m : Int)
  unfold getP; rw [if_neg h, if_neg (by omega), plain_ofBE hm, if_neg (by omega)]
theorem plain_head (n : Int) : (plainP n).headD 1 ≠ 0 := by
  have h : ∀ l : List UInt8, (l.dropWhile (· == 0)).headD 1 ≠ 0 := fun l => by
    induction l with
    | nil => simp
    | cons a l ih =>
      rw [List.dropWhile_cons]
      split
      · exact ih
      · rename_i ha; simpa using ha
  exact h _
theorem plain_head0 {n : Int} (h : (plainP n).length ≠ 0) : (plainP n).headD 0 ≠ 0 := by
  have := plain_head n
  cases hp : plainP n with
  | nil => rw [hp] at h; simp at h
  | cons a l => rw [hp] at this; exact this
/-- bytes without noughts ahead are their number's plain bytes -/
theorem plain_back {x : List UInt8} (h8 : x.length ≤ 8) (h0 : x.headD 1 ≠ 0) (hx : ofBE x ≤ 4611686018427387904) : plainP ((ofBE x : Nat) : Int) = x := by
  have hl := leN_ofBE x.length x rfl
  have e := plain_of (m := ofBE x) (s := x.length) hx h8 (ofBE_lt x) ?_
  · rw [e, hl, List.reverse_reverse]
  · cases x with
    | nil => exact .inl rfl
    | cons a l =>
      refine .inr ?_
      rw [List.length_cons, Nat.add_sub_cancel]
      have hh : ∀ (l : List UInt8) (c : Nat), l.foldl (fun x c => x * 256 + c.toNat) c = c * 256 ^ l.length + ofBE l := fun l => by
        induction l with
        | nil => intro c; simp [ofBE]
        | cons b l ih =>
          intro c
          have e2 : ofBE (b :: l) = b.toNat * 256 ^ l.length + ofBE l := by
            rw [show ofBE (b :: l) = l.foldl (fun x c => x * 256 + c.toNat) (0 * 256 + b.toNat) from rfl, ih, Nat.zero_mul, Nat.zero_add]
          rw [List.foldl_cons, ih, e2, List.length_cons, Nat.pow_succ, Nat.add_mul, Nat.mul_assoc, Nat.mul_comm 256, Nat.add_assoc]
      have : ofBE (a :: l) = a.toNat * 256 ^ l.length + ofBE l := by
        rw [show ofBE (a :: l) = l.foldl (fun x c => x * 256 + c.toNat) (0 * 256 + a.toNat) from rfl, hh]; simp
      rw [this]
      refine Nat.div_pos ?_ (Nat.pow_pos (by decide))
      have ha : 1 ≤ a.toNat := by
        have : a ≠ 0 := h0
        have : a.toNat ≠ 0 := fun h => this (UInt8.toNat_inj.1 (by simpa using h))
        omega
      have := Nat.mul_le_mul_right (256 ^ l.length) ha
      omega
theorem get_put {m s : Nat} (h0 : 1 ≤ s) (h8 : s ≤ 8) (hm : m ≤ 4611686018427387904) (h : m < 256 ^ s) : getP (putP (m : Int) (s : Int)).1 = ((m : Int), 0) := by
  rw [put_eq h0 h8 hm h]
  unfold getP
  simp only [List.length_reverse, leN_len]
  rw [if_neg (by omega), if_neg (by omega), ofBE_leN s m h, if_neg (by omega)]
theorem put_get {x : List UInt8} (h0 : 1 ≤ x.length) (h8 : x.length ≤ 8) (hx : ofBE x ≤ 4611686018427387904) : (putP ((ofBE x : Nat) : Int) (x.length : Int)).1 = x := by
  rw [put_eq h0 h8 hx (ofBE_lt x), leN_ofBE _ x rfl, List.reverse_reverse]
theorem get_one (c : UInt8) : getP [c] = ((c.toNat : Int), 0) := by
  have := c.toNat_lt
  unfold getP; rw [if_neg (by simp), if_neg (by simp), if_neg (by simp [ofBE]; omega)]; simp [ofBE]

/-! ### what is written is read -/
theorem take_app (x r : List UInt8) : takeP (x ++ r, 0) x.length = (x, (r, 0)) := by
  unfold takeP; simp
theorem take_app' {x r : List UInt8} {n : Nat} (h : n = x.length) : takeP (x ++ r, 0) n = (x, (r, 0)) := by subst h; exact take_app x r
theorem count_one (c : UInt8) (r : List UInt8) : countP (c :: r, 0) 1 = (c.toNat, (r, 0)) := by
  have := take_app [c] r
  simp only [List.length_singleton, List.singleton_append] at this
  unfold countP; rw [this]; simp [get_one]
theorem count_put {m s : Nat} (h0 : 1 ≤ s) (h8 : s ≤ 8) (hm : m ≤ 4611686018427387904) (h : m < 256 ^ s) (r : List UInt8) : countP ((putP (m : Int) (s : Int)).1 ++ r, 0) s = (m, (r, 0)) := by
  have hl : s = (putP (m : Int) (s : Int)).1.length := by rw [put_eq h0 h8 hm h]; simp [leN_len]
  unfold countP; rw [take_app' hl, get_put h0 h8 hm h]; simp
theorem number_put {n : Int} (h0 : 0 ≤ n) (hn : n ≤ 4611686018427387904) (r : List UInt8) : numberP (UInt8.ofNat (plainP n).length :: (plainP n ++ r), 0) = (.mk 1 n [] [], (r, 0)) := by
  obtain ⟨m, rfl⟩ : ∃ m : Nat, n = m := ⟨n.toNat, by omega⟩
  have hl := plain_len (m : Int)
  have hu : (UInt8.ofNat (plainP (m : Int)).length).toNat = (plainP (m : Int)).length := by rw [UInt8.toNat_ofNat']; omega
  unfold numberP
  simp only [count_one, hu]
  have hs : (if 8 < (plainP (m : Int)).length then failP (plainP (m : Int) ++ r, 0) else (plainP (m : Int) ++ r, 0)) = (plainP (m : Int) ++ r, 0) := if_neg (by omega)
  rw [hs, take_app]
  by_cases hz : (plainP (m : Int)).length = 0
  · rw [if_pos hz, plain_nil (by omega) hz]; rfl
  · rw [if_neg hz, plain_get (by omega) hz]
    simp only
    rw [if_neg (fun h => h.elim (fun h => h rfl) fun h => plain_head0 hz h)]
theorem items_put {d : Nat} : ∀ (l acc : List Val) (r : List UInt8), (∀ w, w ∈ l → ∀ r, valueP d (bytesA w ++ r, 0) = (w, (r, 0))) → itemsP (valueP d) l.length acc (bytesAL l ++ r, 0) = (acc ++ l, (r, 0))
  | [], acc, r, h => by simp [itemsP, bytesAL]
  | v :: l, acc, r, h => by
    rw [List.length_cons, itemsP, if_pos rfl, bytesAL, List.append_assoc, h v List.mem_cons_self]
    rw [items_put l _ r fun w hw => h w (List.mem_cons_of_mem _ hw)]
    simp
theorem deepAL_mem : ∀ {l : List Val} (w : Val), w ∈ l → deepA w ≤ deepAL l
  | [], w, hw => by cases hw
  | v :: l, w, hw => by
    simp only [deepAL]
    cases hw with
    | head => omega
    | tail _ hw => have := deepAL_mem w hw; omega
theorem take_cons (c : UInt8) (r : List UInt8) : takeP (c :: r, 0) 1 = ([c], (r, 0)) := take_app [c] r
theorem p3 : (256 : Nat) ^ 3 = 16777216 := by decide
theorem p2 : (256 : Nat) ^ 2 = 65536 := by decide
theorem value_put : ∀ (v : Val), pureA v = true → ∀ (d : Nat), deepA v ≤ d → ∀ r, valueP d (bytesA v ++ r, 0) = (v, (r, 0)) := by
  refine Val.ind fun k n b l ih hp d hd r => ?_
  have hpp : pure1 (.mk k n b l) = true ∧ pureAL l = true := by simpa [pureA] using hp
  by_cases k1 : k = 1
  · subst k1
    obtain ⟨⟨h1, h2⟩, h3, h4⟩ := pure1_1 hpp.1 rfl
    simp only [Val.num, Val.bytes, Val.list] at h1 h2 h3 h4
    rw [List.eq_nil_of_length_eq_zero h3, List.eq_nil_of_length_eq_zero h4, bytesA_1, List.cons_append, List.cons_append]
    rw [value_1 (by rw [take_cons]) (by rw [take_cons]; rfl), take_cons]
    exact number_put h1 h2 r
  by_cases k2 : k = 2
  · subst k2
    obtain ⟨h1, h2, h3⟩ := pure1_2 hpp.1 rfl
    simp only [Val.num, Val.bytes, Val.list] at h1 h2 h3
    rw [h1, List.eq_nil_of_length_eq_zero h3, bytesA_2, List.cons_append]
    rw [value_2 (by rw [take_cons]) (by rw [take_cons]; rfl), take_cons, List.append_assoc]
    have hc := count_put (m := b.length) (s := 3) (by decide) (by decide) (by omega) (by have := p3; omega) (b ++ r)
    rw [show ((3 : Nat) : Int) = 3 from rfl] at hc
    rw [hc, take_app]
  · obtain ⟨h0, h1, h2, h3⟩ := pure1_3 hpp.1 k1 k2
    simp only [Val.kind, Val.num, Val.bytes, Val.list] at h0 h1 h2 h3
    subst h0
    rw [h1, List.eq_nil_of_length_eq_zero h2, bytesA_3 _ _ _ k1 k2, List.cons_append, List.append_assoc]
    have hdd : deepAL l + 1 ≤ d := by simpa [deepA] using hd
    have hc := count_put (m := l.length) (s := 2) (by decide) (by decide) (by omega) (by have := p2; omega) (bytesAL l ++ r)
    rw [show ((2 : Nat) : Int) = 2 from rfl] at hc
    rw [value_3 (c := (l.length, (bytesAL l ++ r, 0))) (s1 := (bytesAL l ++ r, 0)) (by rw [take_cons]) (by rw [take_cons]; rfl) (by rw [take_cons, hc]) (if_neg (by simp only; omega))]
    simp only
    rw [items_put l [] r fun w hw r => ih w hw (pureAL_mem hpp.2 w hw) (d - 1) (by have := deepAL_mem w hw; omega) r]
    simp

/-! ### what is read is what was written -/
theorem take_ok {x : List UInt8} {n : Nat} (h : (takeP (x, 0) n).2.2 = 0) : n ≤ x.length ∧ takeP (x, 0) n = (x.take n, (x.drop n, 0)) := by
  unfold takeP at h ⊢
  rw [if_pos rfl] at h ⊢
  split at h
  · cases h
  · rename_i hn; rw [if_neg hn]; exact ⟨by simpa using hn, rfl⟩
theorem take_err {s : Rdr} (h : s.2 ≠ 0) (n : Nat) : takeP s n = ([], s) := by unfold takeP; rw [if_neg h]
theorem count_ok {x : List UInt8} {n : Nat} (h : (countP (x, 0) n).2.2 = 0) : n ≤ x.length ∧ countP (x, 0) n = ((getP (x.take n)).1.toNat, (x.drop n, 0)) := by
  obtain ⟨h1, h2⟩ := take_ok (x := x) (n := n) h
  refine ⟨h1, ?_⟩
  unfold countP; rw [h2]
theorem get_ok {y : List UInt8} (h : (getP y).2 = 0) : getP y = (((ofBE y : Nat) : Int), 0) ∧ 1 ≤ y.length ∧ y.length ≤ 8 ∧ ofBE y ≤ 4611686018427387904 := by
  unfold getP at h ⊢
  split at h
  · cases h
  · rename_i h0
    rw [if_neg h0]
    split at h
    · cases h
    · rename_i h8
      rw [if_neg h8]
      split at h
      · cases h
      · rename_i hm
        rw [if_neg hm]; exact ⟨rfl, by omega, by omega, by omega⟩
theorem get_small {y : List UInt8} (h0 : 1 ≤ y.length) (h7 : y.length ≤ 7) : getP y = (((ofBE y : Nat) : Int), 0) := by
  have := ofBE_lt y
  have h : 256 ^ y.length ≤ 256 ^ 7 := Nat.pow_le_pow_right (by decide) h7
  have e : (256 : Nat) ^ 7 = 72057594037927936 := by decide
  unfold getP; rw [if_neg (by omega), if_neg (by omega), if_neg (by omega)]
theorem number_inv {x : List UInt8} {v : Val} {z : List UInt8} (h : numberP (x, 0) = (v, (z, 0))) : ∃ n : Int, v = .mk 1 n [] [] ∧ 0 ≤ n ∧ n ≤ 4611686018427387904 ∧ x = UInt8.ofNat (plainP n).length :: (plainP n ++ z) := by
  cases x with
  | nil =>
    exfalso
    have e : numberP ([], 0) = (.mk 1 0 [] [], ([], 10)) := rfl
    rw [e] at h
    simp at h
  | cons c t =>
    unfold numberP at h
    simp only [count_one] at h
    by_cases h8 : 8 < c.toNat
    · exfalso
      rw [if_pos h8] at h
      have he : (failP (t, 0)).2 ≠ 0 := fail_ne _
      rw [take_err he] at h
      simp at h
      exact he (by rw [h.2])
    · rw [if_neg h8] at h
      by_cases hl : t.length < c.toNat
      · exfalso
        have : takeP (t, 0) c.toNat = ([], (t, 10)) := by unfold takeP; simp [hl]
        rw [this] at h
        simp at h
      · have ht : takeP (t, 0) c.toNat = (t.take c.toNat, (t.drop c.toNat, 0)) := by unfold takeP; simp [hl]
        rw [ht] at h
        have htl : (t.take c.toNat).length = c.toNat := by rw [List.length_take]; omega
        simp only [htl] at h
        by_cases h0 : c.toNat = 0
        · rw [if_pos h0] at h
          simp only [Prod.mk.injEq] at h
          obtain ⟨rfl, h1, _⟩ := h
          refine ⟨0, rfl, by decide, by decide, ?_⟩
          have hp : plainP 0 = [] := by decide +kernel
          rw [hp, ← h1, h0]
          have : c = 0 := UInt8.toNat_inj.1 (by simpa using h0)
          rw [this]; rfl
        · rw [if_neg h0] at h
          by_cases hg : (getP (t.take c.toNat)).2 ≠ 0 ∨ (t.take c.toNat).headD 0 = 0
          · exfalso
            rw [if_pos hg] at h
            simp only [Prod.mk.injEq] at h
            exact fail_ne (t.drop c.toNat, 0) (by rw [h.2])
          · rw [if_neg hg] at h
            simp only [ne_eq, not_or, Decidable.not_not] at hg
            obtain ⟨g1, g2, g3, g4⟩ := get_ok hg.1
            simp only [Prod.mk.injEq] at h
            obtain ⟨rfl, h1, _⟩ := h
            have hh : (t.take c.toNat).headD 1 ≠ 0 := by
              cases hc : t.take c.toNat with
              | nil => rw [hc] at g2; simp at g2
              | cons a l => have := hg.2; rw [hc] at this; exact this
            have hb := plain_back g3 hh g4
            refine ⟨_, by rw [g1], by simp only; omega, by simp only; omega, ?_⟩
            rw [hb, htl, ← h1, List.take_append_drop]
            congr 1
            exact (UInt8.ofNat_toNat).symm
theorem items_inv {f : Rdr → Val × Rdr} {B : Nat} {d : Nat} (hf : ∀ s v s', s.2 = 0 → s.1.length ≤ B → f s = (v, s') → s'.2 = 0 → s.1 = bytesA v ++ s'.1 ∧ pureA v = true ∧ deepA v ≤ d) : ∀ (n : Nat) (acc : List Val) (s : Rdr) (l' : List Val) (s' : Rdr), s.2 = 0 → s.1.length ≤ B →
    itemsP f n acc s = (l', s') → s'.2 = 0 → ∃ l, l' = acc ++ l ∧ l.length = n ∧ s.1 = bytesAL l ++ s'.1 ∧ pureAL l = true ∧ deepAL l ≤ d
  | 0, acc, s, l', s', h0, hB, h, h1 => by
    simp only [itemsP, Prod.mk.injEq] at h
    obtain ⟨rfl, rfl⟩ := h
    exact ⟨[], by simp, rfl, by simp [bytesAL], rfl, by simp [deepAL]⟩
  | n + 1, acc, s, l', s', h0, hB, h, h1 => by
    rw [itemsP, if_pos h0] at h
    obtain ⟨v, s1, hv⟩ : ∃ v s1, f s = (v, s1) := ⟨_, _, rfl⟩
    rw [hv] at h
    by_cases he : s1.2 = 0
    · obtain ⟨k1, k2, k3⟩ := hf s v s1 h0 hB hv he
      obtain ⟨l, m1, m2, m3, m4, m5⟩ := items_inv hf n _ s1 l' s' he (by rw [k1] at hB; simp at hB; omega) h h1
      refine ⟨v :: l, by rw [m1]; simp, by simp [m2], by rw [k1, m3, bytesAL]; simp, by simp [pureAL, k2, m4], ?_⟩
      simp only [deepAL]; omega
    · exfalso
      simp only [items_stop _ _ _ he, Prod.mk.injEq] at h
      exact he (by rw [h.2]; exact h1)
theorem cons_of_take {x : List UInt8} (h : 1 ≤ x.length) : ∃ c t, x = c :: t := by
  cases x with
  | nil => simp at h
  | cons c t => exact ⟨c, t, rfl⟩
theorem u8_of {c : UInt8} {n : Nat} (h : c.toNat = n) : c = UInt8.ofNat n := by rw [← h]; exact (UInt8.ofNat_toNat).symm
theorem value_step {n : Nat} (ih : n ≠ 0 → ∀ (s : Rdr) (v : Val) (s' : Rdr), s.2 = 0 → s.1.length ≤ 1048576 → valueP (n - 1) s = (v, s') → s'.2 = 0 → s.1 = bytesA v ++ s'.1 ∧ pureA v = true ∧ deepA v ≤ n - 1) :
    ∀ (s : Rdr) (v : Val) (s' : Rdr), s.2 = 0 → s.1.length ≤ 1048576 → valueP n s = (v, s') → s'.2 = 0 → s.1 = bytesA v ++ s'.1 ∧ pureA v = true ∧ deepA v ≤ n := by
  rintro ⟨x, e⟩ v ⟨z, e'⟩ h0 hB h h1
  simp only at h0 h1 hB ⊢
  subst h0; subst h1
  by_cases ht : (takeP (x, 0) 1).2.2 = 0
  rotate_left
  · rw [value_e ht] at h
    simp only [Prod.mk.injEq] at h
    exact absurd (by rw [h.2]) ht
  obtain ⟨t1, t2⟩ := take_ok ht
  obtain ⟨c, t, rfl⟩ := cons_of_take t1
  have tc := take_cons c t
  by_cases k1 : c.toNat = 1
  · rw [value_1 ht (by rw [tc]; exact k1), tc] at h
    obtain ⟨n, rfl, n1, n2, rfl⟩ := number_inv h
    refine ⟨?_, ?_, by simp [deepA]⟩
    · rw [bytesA_1, u8_of k1]; rfl
    · simp [pureA, pure1, pureAL, Val.kind, Val.num, Val.bytes, Val.list, n1, n2]
  by_cases k2 : c.toNat = 2
  · rw [value_2 ht (by rw [tc]; exact k2), tc] at h
    by_cases hc : (countP (t, 0) 3).2.2 = 0
    · obtain ⟨c1, c2⟩ := count_ok hc
      have hl3 : (t.take 3).length = 3 := by rw [List.length_take]; omega
      have hg := get_small (y := t.take 3) (by omega) (by omega)
      rw [hg, Int.toNat_natCast] at c2
      simp only [c2] at h
      simp only [Prod.mk.injEq] at h
      obtain ⟨rfl, h2⟩ := h
      have htk : (takeP (t.drop 3, 0) (ofBE (t.take 3))).2.2 = 0 := by rw [h2]
      obtain ⟨q1, q2⟩ := take_ok htk
      rw [q2] at h2 ⊢
      simp only [Prod.mk.injEq, and_true] at h2
      have hbl : ((t.drop 3).take (ofBE (t.take 3))).length = ofBE (t.take 3) := by rw [List.length_take]; omega
      have hlt : ofBE (t.take 3) ≤ 1048576 := by
        simp only [List.length_drop] at q1; simp only [List.length_cons] at hB; omega
      have hpg := put_get (x := t.take 3) (by omega) (by omega) (by omega)
      rw [hl3] at hpg
      refine ⟨?_, ?_, by simp [deepA]⟩
      · rw [bytesA_2, hbl, show (3 : Int) = ((3 : Nat) : Int) from rfl, hpg, ← h2, u8_of k2]
        simp only [List.cons_append, List.append_assoc, List.take_append_drop]; rfl
      · simp [pureA, pure1, pureAL, Val.kind, Val.num, Val.bytes, Val.list]
        simp only [List.length_drop] at q1; simp only [List.length_cons] at hB; omega
    · exfalso
      rw [take_err hc] at h
      simp only [Prod.mk.injEq] at h
      exact hc (by rw [h.2])
  by_cases k3 : c.toNat = 3
  rotate_left
  · exfalso
    rw [value_x ht (by rw [tc]; exact k1) (by rw [tc]; exact k2) (by rw [tc]; exact k3), tc] at h
    simp only [Prod.mk.injEq] at h
    exact fail_ne (t, 0) (by rw [h.2])
  obtain ⟨cc, hcc⟩ : ∃ cc, countP (t, 0) 2 = cc := ⟨_, rfl⟩
  obtain ⟨s1, hs1⟩ : ∃ s1, (if 4096 < cc.1 ∨ n = 0 then failP cc.2 else cc.2) = s1 := ⟨_, rfl⟩
  rw [value_3 ht (by rw [tc]; exact k3) (by rw [tc]; exact hcc) hs1] at h
  simp only [Prod.mk.injEq] at h
  obtain ⟨rfl, h2⟩ := h
  by_cases hc : cc.2.2 = 0
  rotate_left
  · exfalso
    have : s1.2 ≠ 0 := by
      rw [← hs1]; split
      · exact fail_ne _
      · exact hc
    rw [items_stop _ _ _ this] at h2
    simp only at h2
    exact this (by rw [h2])
  rw [← hcc] at hc
  obtain ⟨c1, c2⟩ := count_ok hc
  have hl2 : (t.take 2).length = 2 := by rw [List.length_take]; omega
  have hg := get_small (y := t.take 2) (by omega) (by omega)
  rw [hg, Int.toNat_natCast, hcc] at c2
  subst c2
  by_cases hbad : 4096 < ofBE (t.take 2) ∨ n = 0
  · exfalso
    rw [if_pos hbad] at hs1
    have : s1.2 ≠ 0 := by rw [← hs1]; exact fail_ne _
    rw [items_stop _ _ _ this] at h2
    simp only at h2
    exact this (by rw [h2])
  rw [if_neg hbad] at hs1
  simp only at hs1
  subst hs1
  have h4 : ofBE (t.take 2) ≤ 4096 := by omega
  have hn0 : n ≠ 0 := fun h => hbad (.inr h)
  obtain ⟨l, m1, m2, m3, m4, m5⟩ := items_inv (f := valueP (n - 1)) (B := 1048576) (d := n - 1) (ih hn0) (ofBE (t.take 2)) [] (t.drop 2, 0) (itemsP (valueP (n - 1)) (ofBE (t.take 2)) [] (t.drop 2, 0)).1 (z, 0) rfl (by simp only [List.length_drop]; simp only [List.length_cons] at hB; omega) (Prod.ext rfl h2) rfl
  rw [m1, List.nil_append]
  simp only at m3
  have hpg := put_get (x := t.take 2) (by omega) (by omega) (by omega)
  rw [hl2] at hpg
  refine ⟨?_, ?_, ?_⟩
  · rw [bytesA_3 _ _ _ (by decide) (by decide), m2, show (2 : Int) = ((2 : Nat) : Int) from rfl, hpg, u8_of k3]
    simp only [List.cons_append, List.append_assoc]
    rw [← m3, List.take_append_drop]; rfl
  · simp [pureA, pure1, Val.kind, Val.num, Val.bytes, Val.list, m2, m4, h4]
  · simp only [deepA, if_true]; omega
theorem value_inv : ∀ (d : Nat) (s : Rdr) (v : Val) (s' : Rdr), s.2 = 0 → s.1.length ≤ 1048576 → valueP d s = (v, s') → s'.2 = 0 → s.1 = bytesA v ++ s'.1 ∧ pureA v = true ∧ deepA v ≤ d
  | 0 => value_step fun h => absurd rfl h
  | d + 1 => value_step fun _ => value_inv d
end Go.Proofs.YtaajlbbooneiiaaDoor.Avm
