/- Specs: the document's reading of manifests; signed bytes split. The functions that the laws of manifests' texts call: each is what it is told to be. The arguments' shapes of the manifest laws. The row of the law ManifestReads. -/
import Derived.Test.YtaajlbbooneiiaaZ13
import Derived.Test.YtaajlbbooneiiaaRows
set_option linter.unusedVariables false
set_option linter.unusedSimpArgs false
set_option maxRecDepth 10000
namespace Go.Proofs.Ytaajlbbooneiiaa.Avm

def readRD (d : Val × Int) (b : List UInt8) : Mani × Int :=
  if d.2 ≠ 0 then (mani0, d.2)
  else if (fieldsP d.1 ks9).2 = false then (mani0, 11)
  else (memsOf (at0 d.1.list 5).list).elim (mani0, 11) fun ms => if mayP (maniOf d.1.list ms) = false ∨ bytesA (maniV (maniOf d.1.list ms)) ≠ b then (mani0, 11) else (maniOf d.1.list ms, 0)
def ksS : List Int := [2, 2]
def splitD (d : Val × Int) : List UInt8 × List UInt8 × Int :=
  if d.2 ≠ 0 then ([], [], d.2) else if (fieldsP d.1 ksS).2 = false then ([], [], 11) else ((at0 d.1.list 0).bytes, (at0 d.1.list 1).bytes, 0)
def splitP (b : List UInt8) : List UInt8 × List UInt8 × Int := splitD (decodeP b)
def e_readR28 : List UInt8 → List AV := fun b => [enc b]
def k_readR28 : List UInt8 → Prop := fun b => True
def r_readR28 : List UInt8 → AV := fun b => .tup [.agg (maniL (readRD (decodeP b) b).1), .int .i64 (readRD (decodeP b) b).2]
noncomputable def p_readR28 : List AV → Store → Option (AV × Store) := primG e_readR28 (gd k_readR28 r_readR28)
theorem i_readR28 : Inj e_readR28 := by
  intro b1 b2 h
  simpa only [e_readR28, enc_inj, rec_inj, AV.str.injEq, AV.int.injEq, AV.bool.injEq, AV.agg.injEq, AV.ptr.injEq, AV.fn.injEq, List.cons.injEq, and_true, true_and, Prod.mk.injEq] using h
theorem c_readR28 {E : Env} (h : E.prim 14 = some fun _ => p_readR28) (b : List UInt8) {S : Store} {K : AV → Store → Prop} {d : Dm K} : SpD E 14 [enc b] S K d = K (.tup [.agg (maniL (readRD (decodeP b) b).1), .int .i64 (readRD (decodeP b) b).2]) S := by
  have := callG h i_readR28 (a := b) (S := S) (args := [enc b]) (K := K) (d := d) (by simp only [e_readR28, rdSL_cons, rdSL_nil, rdS_int, rdS_bool, rdS_str, enc_rdS, rdS_fn0, rdS_csl0, rdS_rec, rdSL_rec, rdS_agg, rdS_tup, Option.bind_some, Option.map_some]) trivial
  simpa only [r_readR28, topL_cons, topL_nil, top_int, top_bool, top_str, top_csl, enc_top, top_agg, top_rec, top_fn, List.nil_append, killL_nil] using this
theorem c_readR28' {E : Env} (h : E.prim 14 = some fun _ => p_readR28) {S : Store} {x0 : AV} {b : List UInt8} (h0 : rdS S x0 = some (enc b)) {K : AV → Store → Prop} {d : Dm K} : SpD E 14 [x0] S K d = K (.tup [.agg (maniL (readRD (decodeP b) b).1), .int .i64 (readRD (decodeP b) b).2]) (killL (topIdsL [x0]) S) :=
  callG h i_readR28 (a := b) (by simp only [e_readR28, rdSL, h0, Option.bind_some, Option.map_some]) trivial
def e_split28 : List UInt8 → List AV := fun b => [enc b]
def k_split28 : List UInt8 → Prop := fun b => True
def r_split28 : List UInt8 → AV := fun b => .tup [enc (splitP b).1, enc (splitP b).2.1, .int .i64 (splitP b).2.2]
noncomputable def p_split28 : List AV → Store → Option (AV × Store) := primG e_split28 (gd k_split28 r_split28)
theorem i_split28 : Inj e_split28 := by
  intro b1 b2 h
  simpa only [e_split28, enc_inj, rec_inj, AV.str.injEq, AV.int.injEq, AV.bool.injEq, AV.agg.injEq, AV.ptr.injEq, AV.fn.injEq, List.cons.injEq, and_true, true_and, Prod.mk.injEq] using h
theorem c_split28 {E : Env} (h : E.prim 15 = some fun _ => p_split28) (b : List UInt8) {S : Store} {K : AV → Store → Prop} {d : Dm K} : SpD E 15 [enc b] S K d = K (.tup [enc (splitP b).1, enc (splitP b).2.1, .int .i64 (splitP b).2.2]) S := by
  have := callG h i_split28 (a := b) (S := S) (args := [enc b]) (K := K) (d := d) (by simp only [e_split28, rdSL_cons, rdSL_nil, rdS_int, rdS_bool, rdS_str, enc_rdS, rdS_fn0, rdS_csl0, rdS_rec, rdSL_rec, rdS_agg, rdS_tup, Option.bind_some, Option.map_some]) trivial
  simpa only [r_split28, topL_cons, topL_nil, top_int, top_bool, top_str, top_csl, enc_top, top_agg, top_rec, top_fn, List.nil_append, killL_nil] using this
theorem c_split28' {E : Env} (h : E.prim 15 = some fun _ => p_split28) {S : Store} {x0 : AV} {b : List UInt8} (h0 : rdS S x0 = some (enc b)) {K : AV → Store → Prop} {d : Dm K} : SpD E 15 [x0] S K d = K (.tup [enc (splitP b).1, enc (splitP b).2.1, .int .i64 (splitP b).2.2]) (killL (topIdsL [x0]) S) :=
  callG h i_split28 (a := b) (by simp only [e_split28, rdSL, h0, Option.bind_some, Option.map_some]) trivial
def e_splitR28 : List UInt8 → List AV := fun b => [enc b]
def k_splitR28 : List UInt8 → Prop := fun b => True
def r_splitR28 : List UInt8 → AV := fun b => .tup [enc (splitP b).1, enc (splitP b).2.1, .int .i64 (splitP b).2.2]
noncomputable def p_splitR28 : List AV → Store → Option (AV × Store) := primG e_splitR28 (gd k_splitR28 r_splitR28)
theorem i_splitR28 : Inj e_splitR28 := by
  intro b1 b2 h
  simpa only [e_splitR28, enc_inj, rec_inj, AV.str.injEq, AV.int.injEq, AV.bool.injEq, AV.agg.injEq, AV.ptr.injEq, AV.fn.injEq, List.cons.injEq, and_true, true_and, Prod.mk.injEq] using h
theorem c_splitR28 {E : Env} (h : E.prim 16 = some fun _ => p_splitR28) (b : List UInt8) {S : Store} {K : AV → Store → Prop} {d : Dm K} : SpD E 16 [enc b] S K d = K (.tup [enc (splitP b).1, enc (splitP b).2.1, .int .i64 (splitP b).2.2]) S := by
  have := callG h i_splitR28 (a := b) (S := S) (args := [enc b]) (K := K) (d := d) (by simp only [e_splitR28, rdSL_cons, rdSL_nil, rdS_int, rdS_bool, rdS_str, enc_rdS, rdS_fn0, rdS_csl0, rdS_rec, rdSL_rec, rdS_agg, rdS_tup, Option.bind_some, Option.map_some]) trivial
  simpa only [r_splitR28, topL_cons, topL_nil, top_int, top_bool, top_str, top_csl, enc_top, top_agg, top_rec, top_fn, List.nil_append, killL_nil] using this
theorem c_splitR28' {E : Env} (h : E.prim 16 = some fun _ => p_splitR28) {S : Store} {x0 : AV} {b : List UInt8} (h0 : rdS S x0 = some (enc b)) {K : AV → Store → Prop} {d : Dm K} : SpD E 16 [x0] S K d = K (.tup [enc (splitP b).1, enc (splitP b).2.1, .int .i64 (splitP b).2.2]) (killL (topIdsL [x0]) S) :=
  callG h i_splitR28 (a := b) (by simp only [e_splitR28, rdSL, h0, Option.bind_some, Option.map_some]) trivial
def e_manifestReads : List UInt8 → List AV := fun b => [enc b]
def k_manifestReads : List UInt8 → Prop := fun b => b.length ≤ 9223372036854775807
def r_manifestReads : List UInt8 → AV := fun b => .bool true
noncomputable def p_manifestReads : List AV → Store → Option (AV × Store) := primS e_manifestReads (gd k_manifestReads r_manifestReads)
theorem i_manifestReads : Inj e_manifestReads := by
  intro b1 b2 h
  simpa only [e_manifestReads, enc_inj, rec_inj, AV.str.injEq, AV.int.injEq, AV.bool.injEq, AV.agg.injEq, AV.ptr.injEq, AV.fn.injEq, List.cons.injEq, and_true, true_and, Prod.mk.injEq] using h
theorem c_manifestReads {E : Env} (h : E.prim 4 = some fun _ => p_manifestReads) (b : List UInt8) (hk : b.length ≤ 9223372036854775807) {S : Store} {K : AV → Store → Prop} {d : Dm K} : SpD E 4 [enc b] S K d = K (.bool true) S :=
  callS h i_manifestReads (a := b) (by simp only [e_manifestReads, rdSL_cons, rdSL_nil, rdS_int, rdS_bool, rdS_str, enc_rdS, rdS_fn0, rdS_csl0, rdS_rec, rdSL_rec, rdS_agg, rdS_tup, Option.bind_some, Option.map_some]) hk
theorem c_manifestReads' {E : Env} (h : E.prim 4 = some fun _ => p_manifestReads) {S : Store} {x0 : AV} {b : List UInt8} (h0 : rdS S x0 = some (enc b)) (hk : b.length ≤ 9223372036854775807) {K : AV → Store → Prop} {d : Dm K} : SpD E 4 [x0] S K d = K (.bool true) S :=
  callS h i_manifestReads (a := b) (by simp only [e_manifestReads, rdSL, h0, Option.bind_some, Option.map_some]) hk

theorem ok_readR28 {E : Env} (hp : E.prim 14 = none) (hf : E.F 14 = some F14) (h1 : E.prim 33 = some fun _ => p_decodeR) (h2 : E.prim 34 = some fun _ => p_kindsR) (h3 : E.prim 8 = some fun _ => p_mayR)
    (h4 : E.prim 12 = some fun _ => p_textR28) (h5 : E.prim 11 = some fun _ => p_bsame) : OkGW E 14 e_readR28 (gd k_readR28 r_readR28) := by
  refine OkGW.code hp hf (fun _ => rfl) fun b S hwf _ => ?_
  have fe : ∀ (T : Store) (e : Int), S <+: T → Conv S T (.tup [.agg [.str [], .int .i64 0, .nilS, .str [], .nilS, .int .i64 0, .bool false, .str []], .int .i64 e]) S (.tup [.agg (maniL mani0), .int .i64 e]) := fun T e hp =>
    conv_pair hp (fun i h => by simp [topIds, topIdsL] at h) (rd_mani T (cb := []) (ms := []) rfl rfl)
  have pr : ∀ L : List AObj, S <+: S ++ L := fun L => List.prefix_append _ _
  obtain ⟨d, hd⟩ : ∃ d, decodeP b = d := ⟨_, rfl⟩
  have hr : readRD (decodeP b) b = (if d.2 ≠ 0 then (mani0, d.2)
    else if (fieldsP d.1 ks9).2 = false then (mani0, 11)
    else (memsOf (at0 d.1.list 5).list).elim (mani0, 11) fun ms => if mayP (maniOf d.1.list ms) = false ∨ bytesA (maniV (maniOf d.1.list ms)) ≠ b then (mani0, 11) else (maniOf d.1.list ms, 0)) := by rw [hd]; rfl
  rw [hd] at hr
  cases y1 : decide (d.2 = 0)
  · rw [if_pos (of_decide_eq_false y1)] at hr
    simp -dsimp only [go_sem, F14, e_readR28, r_readR28, c_decodeR h1, hd, y1, hr]
    exact fe _ _ (pr _)
  have y1' := of_decide_eq_true y1
  rw [if_neg (fun h => h y1')] at hr
  obtain ⟨v, e⟩ := d
  simp only at y1' hr y1
  subst y1'
  obtain ⟨⟨hpu, hde, hby⟩, hbv⟩ := decode_inv hd
  have hvl := (pure_llen hpu).1
  have hpl := pureA_list hpu
  have hbl : b.length ≤ 1048576 := by rw [hbv]; exact hby
  have cf : ∀ (T : Store) (K : AV → Store → Prop) (q : Dm K), SpD E 34 [.agg (valL v), .csl [.int .i64 2, .int .i64 2, .int .i64 1, .int .i64 2, .int .i64 2, .int .i64 3, .int .i64 1, .int .i64 1, .int .i64 2] 9] T K q = K (.bool (fieldsP v ks9).2) T := fun T K q => c_kindsR h2 v ks9 ⟨by decide, by omega⟩
  cases y2 : (fieldsP v ks9).2
  · rw [if_pos y2] at hr
    simp -dsimp only [go_sem, F14, e_readR28, r_readR28, c_decodeR h1, hd, cf, y2, hr]
    exact fe _ _ (pr _)
  obtain ⟨f1, f2, f3, f4⟩ := fields_len y2
  have f2 : v.list.length = 9 := f2
  rw [if_neg (by rw [y2]; decide)] at hr
  have i1 : iaddrA 4 (enc v.list) (.int .i64 1) = _ := ia_at (l := v.list) (i := 1) (by omega) .i64
  have i2 : iaddrA 4 (enc v.list) (.int .i64 2) = _ := ia_at (l := v.list) (i := 2) (by omega) .i64
  have i3 : iaddrA 4 (enc v.list) (.int .i64 3) = _ := ia_at (l := v.list) (i := 3) (by omega) .i64
  have i4 : iaddrA 4 (enc v.list) (.int .i64 4) = _ := ia_at (l := v.list) (i := 4) (by omega) .i64
  have i5 : iaddrA 4 (enc v.list) (.int .i64 5) = _ := ia_at (l := v.list) (i := 5) (by omega) .i64
  have i6 : iaddrA 4 (enc v.list) (.int .i64 6) = _ := ia_at (l := v.list) (i := 6) (by omega) .i64
  have i7 : iaddrA 4 (enc v.list) (.int .i64 7) = _ := ia_at (l := v.list) (i := 7) (by omega) .i64
  have i8 : iaddrA 4 (enc v.list) (.int .i64 8) = _ := ia_at (l := v.list) (i := 8) (by omega) .i64
  simp -dsimp only [go_sem, F14, e_readR28, r_readR28, c_decodeR h1, hd, cf, y2]
  refine ExF.intro ?_
  simp -dsimp only [go_sem, i1, i2, i3, i4, i6, i7, i8, b2s_enc]
  refine ⟨?_, ?_⟩
  rotate_left
  · (repeat' (first | exact fl_ld rfl rfl rfl rfl (flLd_n _ _ _ _ _ _ (by simp -dsimp only [go_sem, i1, i2, i3, i4, i6, i7, i8, b2s_enc])) | exact fl_b2s rfl rfl rfl rfl (by simp -dsimp only [go_sem, i1, i2, i3, i4, i6, i7, i8, b2s_enc]) | apply And.intro))
  obtain ⟨l5, hl5⟩ : ∃ l5, (at0 v.list 5).list = l5 := ⟨_, rfl⟩
  have h5l := at_len hpl 5
  have h5p := at_list hpl 5
  rw [hl5] at h5l h5p hr i5
  have cy : ∀ (T : Store) (y : AV) (ms : List Mem), rdS T y = some (enc ms) → ms.length ≤ 4096 → (∀ x, x ∈ ms → x.name.length ≤ 1048576) → ∀ (K : AV → Store → Prop) (q : Dm K), SpD E 8 [.agg [.str (at0 v.list 1).bytes, .int .i64 (at0 v.list 2).num, enc (at0 v.list 3).bytes, .str (at0 v.list 4).bytes, y, .int .i64 (at0 v.list 6).num, .bool (decide ((at0 v.list 7).num = 1)), .str (at0 v.list 8).bytes]] T K q = K (.bool (mayP (maniOf v.list ms))) T :=
    fun T y ms hy hm hx K q => c_mayR' h3 (rd_mani T (enc_rdS T _) hy) (maniOf_long hpl hm hx)
  refine Ex.count (n := l5.length) (i0 := 0) (fun i g T => g 0 = enc b ∧ g 2 = .ptr S.length 0 ∧ g 4 = .ptr (S.length + 1) 0 ∧ g 6 = .ptr (S.length + 2) 0 ∧ ∃ (y : AV) (R : Store) (ms : List Mem), T = S ++ (.cells [.str [], .int .i64 0, .nilS, .str [], .nilS, .int .i64 0, .bool false, .str []] :: .cells (valL v) ::
    .cells [.str (at0 v.list 1).bytes, .int .i64 (at0 v.list 2).num, enc (at0 v.list 3).bytes, .str (at0 v.list 4).bytes, y, .int .i64 (at0 v.list 6).num, .bool (decide ((at0 v.list 7).num = 1)), .str (at0 v.list 8).bytes] :: R) ∧
    OwnR (S.length + 3) R y ms ∧ memsOf (l5.take i) = some ms) (by decide) (by omega) rfl (by omega) ⟨rfl, rfl, rfl, rfl, .nilS, [], [], rfl, .inl ⟨rfl, rfl⟩, rfl⟩ ?_ ?_ ?_
  · rintro i g T hi gi ⟨g0, g2, g4, g6, y, R, ms, rfl, hR, hms⟩
    simp -dsimp only [go_sem, gi, g4, i5]
  · rintro i g T hi gi ⟨g0, g2, g4, g6, y, R, ms, rfl, hR, hms⟩
    have hx := h5p _ (List.getElem_mem hi)
    have hxl := (pure_llen hx).1
    have cf2 : ∀ (T : Store) (K : AV → Store → Prop) (q : Dm K), SpD E 34 [.agg (valL l5[i]), enc [(2 : Int), 1]] T K q = K (.bool (fieldsP l5[i] ks2).2) T := fun T K q => c_kindsR h2 l5[i] ks2 ⟨by decide, by omega⟩
    cases yf : (fieldsP l5[i] ks2).2
    · rw [memsOf_bad hi hms yf] at hr
      simp only [Option.elim_none] at hr
      simp -dsimp only [go_sem, gi, g0, g2, g4, g6, i5, ia_enc .i64 hi, ld_enc, cf2, yf, F14, r_readR28, hr, hd]
      exact fe _ _ (pr _)
    · obtain ⟨p1, p2, p3, p4⟩ := fields_len yf
      have p2 : l5[i].list.length = 2 := p2
      have j0 := ia_at (l := l5[i].list) (i := 0) (by omega) .i64
      have j1 : iaddrA 4 (enc l5[i].list) (.int .i64 1) = _ := ia_at (l := l5[i].list) (i := 1) (by omega) .i64
      simp only [Int.natCast_zero] at j0
      simp -dsimp only [go_sem, gi, g0, g2, g4, g6, i5, ia_enc .i64 hi, ld_enc, cf2, yf, j0, j1, b2s_enc]
      have hO : OwnL (S ++ [.cells [.str [], .int .i64 0, .nilS, .str [], .nilS, .int .i64 0, .bool false, .str []], .cells (valL v),
        .cells [.str (at0 v.list 1).bytes, .int .i64 (at0 v.list 2).num, enc (at0 v.list 3).bytes, .str (at0 v.list 4).bytes, y, .int .i64 (at0 v.list 6).num, .bool (decide ((at0 v.list 7).num = 1)), .str (at0 v.list 8).bytes]]) _ y _ := OwnR.own (R := R ++ [.cells (valL l5[i])]) (by simpa using hR.more _)
      simp only [List.append_assoc, List.cons_append, List.nil_append] at hO
      have hml := memsOf_len hms
      refine OwnL.app hO rfl (el_enc _ rfl) ?_ fun y' T' hO' hK hi' => ?_
      · simp only [List.length_singleton]; rw [hml, List.length_take]; omega
      obtain ⟨R', rfl⟩ := hO'.1
      have hR' := hO'.ownR
      have yc := hO'.cells1
      simp only [List.append_assoc, List.cons_append, List.nil_append]
      simp -dsimp only [go_sem, gi, g0, g2, g4, g6, yc]
      exact ⟨y', R', _, rfl, by simpa [memOf] using hR', memsOf_succ hi hms yf⟩
  · rintro g T gi ⟨g0, g2, g4, g6, y, R, ms, rfl, hR, hms⟩
    rw [List.take_length] at hms
    have hml := memsOf_len hms
    have hmx := mems_long h5p hms
    rw [hms] at hr
    simp only [Option.elim_some] at hr
    obtain ⟨o8, ho8⟩ : ∃ o8 : AV → AObj, o8 = fun y => .cells [.str (at0 v.list 1).bytes, .int .i64 (at0 v.list 2).num, enc (at0 v.list 3).bytes, .str (at0 v.list 4).bytes, y, .int .i64 (at0 v.list 6).num, .bool (decide ((at0 v.list 7).num = 1)), .str (at0 v.list 8).bytes] := ⟨_, rfl⟩
    have hO : OwnL (S ++ [.cells [.str [], .int .i64 0, .nilS, .str [], .nilS, .int .i64 0, .bool false, .str []], .cells (valL v),
        .cells [.str (at0 v.list 1).bytes, .int .i64 (at0 v.list 2).num, enc (at0 v.list 3).bytes, .str (at0 v.list 4).bytes, y, .int .i64 (at0 v.list 6).num, .bool (decide ((at0 v.list 7).num = 1)), .str (at0 v.list 8).bytes]]) _ y _ := OwnR.own (R := R) (by simpa using hR)
    simp only [List.append_assoc, List.cons_append, List.nil_append] at hO
    have hrd := hO.rd
    have cm := cy _ y ms hrd (by omega) hmx
    cases ym : mayP (maniOf v.list ms)
    · rw [if_pos (.inl ym)] at hr
      simp -dsimp only [go_sem, gi, g0, g2, g4, g6, cm, ym, F14, r_readR28, hr, hd]
      exact fe _ _ (pr _)
    have hid : ∀ i, i ∈ topIds y → S.length ≤ i := fun i hi => by have := hO.ids i hi; simp at this; omega
    have hbb := (right_mani ym).2.2
    have ct := fun (K : AV → Store → Prop) (q : Dm K) => c_textR28' (m := maniOf v.list ms) h4 (rd_mani _ (enc_rdS _ _) hrd : rdS _ (.agg [.str (at0 v.list 1).bytes, .int .i64 (at0 v.list 2).num, enc (at0 v.list 3).bytes, .str (at0 v.list 4).bytes, y, .int .i64 (at0 v.list 6).num, .bool (decide ((at0 v.list 7).num = 1)), .str (at0 v.list 8).bytes]) = some (.agg (maniL (maniOf v.list ms)))) ym (K := K) (d := q)
    simp only [topIdsL, topIds, enc_top, List.nil_append, List.append_nil] at ct
    obtain ⟨T', hT'⟩ : ∃ T', killH (topIds y) (S ++ .cells [.str [], .int .i64 0, .nilS, .str [], .nilS, .int .i64 0, .bool false, .str []] :: .cells (valL v) ::
      .cells [.str (at0 v.list 1).bytes, .int .i64 (at0 v.list 2).num, enc (at0 v.list 3).bytes, .str (at0 v.list 4).bytes, y, .int .i64 (at0 v.list 6).num, .bool (decide ((at0 v.list 7).num = 1)), .str (at0 v.list 8).bytes] :: R) = T' := ⟨_, rfl⟩
    have key : ∃ (y2 : AV) (R2 : Store), (y2 = .nilS ∧ ms = [] ∨ y2 = enc ms) ∧ T' = S ++ (.cells [.str [], .int .i64 0, .nilS, .str [], .nilS, .int .i64 0, .bool false, .str []] :: .cells (valL v) :: .cells [.str (at0 v.list 1).bytes, .int .i64 (at0 v.list 2).num, enc (at0 v.list 3).bytes, .str (at0 v.list 4).bytes, y2, .int .i64 (at0 v.list 6).num, .bool (decide ((at0 v.list 7).num = 1)), .str (at0 v.list 8).bytes] :: R2) := by
      rcases hR with ⟨rfl, rfl⟩ | ⟨j, rfl, hj⟩
      · refine ⟨.nilS, R, .inl ⟨rfl, rfl⟩, ?_⟩
        rw [← hT', show topIds AV.nilS = [] from rfl, killH_nil]
      · refine ⟨enc ms, (R.map (thawO (S ++ .cells [.str [], .int .i64 0, .nilS, .str [], .nilS, .int .i64 0, .bool false, .str []] :: .cells (valL v) ::
          .cells [.str (at0 v.list 1).bytes, .int .i64 (at0 v.list 2).num, enc (at0 v.list 3).bytes, .str (at0 v.list 4).bytes, .sl (S.length + 3 + j) 0 ms.length (Rec.sz Mem), .int .i64 (at0 v.list 6).num, .bool (decide ((at0 v.list 7).num = 1)), .str (at0 v.list 8).bytes] :: R) [S.length + 3 + j])).set j .dead, .inr rfl, ?_⟩
        rw [← hT', show topIds (.sl (S.length + 3 + j) 0 ms.length (Rec.sz Mem)) = [S.length + 3 + j] from rfl]
        have hth : thawV (S ++ .cells [.str [], .int .i64 0, .nilS, .str [], .nilS, .int .i64 0, .bool false, .str []] :: .cells (valL v) ::
          .cells [.str (at0 v.list 1).bytes, .int .i64 (at0 v.list 2).num, enc (at0 v.list 3).bytes, .str (at0 v.list 4).bytes, .sl (S.length + 3 + j) 0 ms.length (Rec.sz Mem), .int .i64 (at0 v.list 6).num, .bool (decide ((at0 v.list 7).num = 1)), .str (at0 v.list 8).bytes] :: R) [S.length + 3 + j] (.sl (S.length + 3 + j) 0 ms.length (Rec.sz Mem)) = enc ms := by
          simp only [thawV]
          rw [if_pos (by simp), hrd]; rfl
        have hse : ∀ (T : Store) (ids : List Nat) (l : List UInt8), thawV T ids (enc l) = enc l := fun T ids l => rfl
        have hsv : ∀ (T : Store) (ids : List Nat) (l : List Val), thawV T ids (enc l) = enc l := fun T ids l => rfl
        have hms' := map_thaw (S := S) (T := S ++ .cells [.str [], .int .i64 0, .nilS, .str [], .nilS, .int .i64 0, .bool false, .str []] :: .cells (valL v) ::
          .cells [.str (at0 v.list 1).bytes, .int .i64 (at0 v.list 2).num, enc (at0 v.list 3).bytes, .str (at0 v.list 4).bytes, .sl (S.length + 3 + j) 0 ms.length (Rec.sz Mem), .int .i64 (at0 v.list 6).num, .bool (decide ((at0 v.list 7).num = 1)), .str (at0 v.list 8).bytes] :: R) (ids := [S.length + 3 + j]) hwf (fun i hi => by simp only [List.mem_singleton] at hi; omega)
        simp only [killH, killL_cons, killL_nil, List.map_append, hms', List.map_cons, thawO, valL, hth, hse, hsv, List.map_nil]
        rw [show S.length + 3 + j = S.length + (j + 1 + 1 + 1) by omega, set_new]
        rfl
    obtain ⟨y2, R2, hy2, rfl⟩ := key
    have hrd2 : ∀ T, rdS T y2 = some (enc ms) ∧ topIds y2 = [] := fun T => by
      rcases hy2 with ⟨rfl, rfl⟩ | rfl
      · exact ⟨rfl, rfl⟩
      · exact ⟨enc_rdS _ _, enc_top _⟩
    have yc2 : y2.cells = [y2] := by rcases hy2 with ⟨rfl, rfl⟩ | rfl <;> rfl
    rw [hT'] at ct
    have cs := fun (T : Store) (K : AV → Store → Prop) (q : Dm K) => c_bsame h5 (bytesA (maniV (maniOf v.list ms))) b (by omega) (S := T) (K := K) (d := q)
    cases yb : decide (bytesA (maniV (maniOf v.list ms)) = b)
    · rw [if_pos (.inr (of_decide_eq_false yb))] at hr
      simp -dsimp only [go_sem, gi, g0, g2, g4, g6, cm, ym, ct, cs, yb, F14, r_readR28, hr, hd]
      exact fe _ _ (pr _)
    rw [if_neg (fun h => h.elim (fun h => by rw [ym] at h; cases h) (fun h => h (of_decide_eq_true yb)))] at hr
    simp -dsimp only [go_sem, gi, g0, g2, g4, g6, cm, ym, ct, cs, yb, yc2, F14, r_readR28, hr, hd]
    exact conv_pair (pr _) (fun i h => by
      simp only [topIds, topIdsL, enc_top, (hrd2 []).2, List.nil_append, List.append_nil] at h
      cases h) (rd_mani _ (enc_rdS _ _) (hrd2 _).1)
theorem ok_split28 {E : Env} (hp : E.prim 15 = none) (hf : E.F 15 = some F15) (h1 : E.prim 26 = some fun _ => p_decode) (h2 : E.prim 27 = some fun _ => p_fields) : OkG E 15 e_split28 (gd k_split28 r_split28) := by
  refine OkG.code hp hf (fun _ => rfl) fun b S _ => ?_
  have fe : ∀ (T : Store) (e : Int), S <+: T → Conv S T (.tup [.nilS, .nilS, .int .i64 e]) S (.tup [enc ([] : List UInt8), enc ([] : List UInt8), .int .i64 e]) := fun T e hp =>
    Conv.good hp (fun i h => by simp [topIds, topIdsL] at h) rfl
  have pr : ∀ L : List AObj, S <+: S ++ L := fun L => List.prefix_append _ _
  obtain ⟨d, hd⟩ : ∃ d, decodeP b = d := ⟨_, rfl⟩
  have hr : splitP b = (if d.2 ≠ 0 then ([], [], d.2) else if (fieldsP d.1 ksS).2 = false then ([], [], 11) else ((at0 d.1.list 0).bytes, (at0 d.1.list 1).bytes, 0)) := by rw [splitP, hd]; rfl
  cases y1 : decide (d.2 = 0)
  · rw [if_pos (of_decide_eq_false y1)] at hr
    simp -dsimp only [go_sem, F15, e_split28, r_split28, c_decode h1, hd, y1, hr]
    exact fe _ _ (pr _)
  have y1' := of_decide_eq_true y1
  rw [if_neg (fun h => h y1')] at hr
  obtain ⟨v, e⟩ := d
  simp only at y1' hr y1
  subst y1'
  obtain ⟨⟨hpu, hde, hby⟩, hbv⟩ := decode_inv hd
  have hvl := (pure_llen hpu).1
  have cf : ∀ (T : Store) (K : AV → Store → Prop) (q : Dm K), SpD E 27 [.agg (valL v), enc [(2 : Int), 2]] T K q = K (.tup [enc (fieldsP v ksS).1, .bool (fieldsP v ksS).2]) T := fun T K q => c_fields h2 v ksS ⟨by decide, by omega⟩
  cases y2 : (fieldsP v ksS).2
  · rw [if_pos y2] at hr
    simp -dsimp only [go_sem, F15, e_split28, r_split28, c_decode h1, hd, cf, y2, hr]
    exact fe _ _ (pr _)
  rw [if_neg (by rw [y2]; decide)] at hr
  obtain ⟨f1, f2, f3, f4⟩ := fields_len y2
  have f2 : v.list.length = 2 := f2
  rw [f1] at cf
  have j0 := ia_at (l := v.list) (i := 0) (by omega) .i64
  have j1 : iaddrA 4 (enc v.list) (.int .i64 1) = _ := ia_at (l := v.list) (i := 1) (by omega) .i64
  simp only [Int.natCast_zero] at j0
  simp -dsimp only [go_sem, F15, e_split28, r_split28, c_decode h1, hd, cf, y2, hr, j0, j1]
  exact Conv.good (pr _) (fun i h => by simp [topIds, topIdsL, enc_top] at h) (by simp only [rdS, rdSL, rd0, enc_rdS, Option.bind_some, Option.map_some])
theorem ok_splitR28 {E : Env} (hp : E.prim 16 = none) (hf : E.F 16 = some F16) (h1 : E.prim 33 = some fun _ => p_decodeR) (h2 : E.prim 34 = some fun _ => p_kindsR) : OkG E 16 e_splitR28 (gd k_splitR28 r_splitR28) := by
  refine OkG.code hp hf (fun _ => rfl) fun b S _ => ?_
  have fe : ∀ (T : Store) (e : Int), S <+: T → Conv S T (.tup [.nilS, .nilS, .int .i64 e]) S (.tup [enc ([] : List UInt8), enc ([] : List UInt8), .int .i64 e]) := fun T e hp =>
    Conv.good hp (fun i h => by simp [topIds, topIdsL] at h) rfl
  have pr : ∀ L : List AObj, S <+: S ++ L := fun L => List.prefix_append _ _
  obtain ⟨d, hd⟩ : ∃ d, decodeP b = d := ⟨_, rfl⟩
  have hr : splitP b = (if d.2 ≠ 0 then ([], [], d.2) else if (fieldsP d.1 ksS).2 = false then ([], [], 11) else ((at0 d.1.list 0).bytes, (at0 d.1.list 1).bytes, 0)) := by rw [splitP, hd]; rfl
  cases y1 : decide (d.2 = 0)
  · rw [if_pos (of_decide_eq_false y1)] at hr
    simp -dsimp only [go_sem, F16, e_splitR28, r_splitR28, c_decodeR h1, hd, y1, hr]
    exact fe _ _ (pr _)
  have y1' := of_decide_eq_true y1
  rw [if_neg (fun h => h y1')] at hr
  obtain ⟨v, e⟩ := d
  simp only at y1' hr y1
  subst y1'
  obtain ⟨⟨hpu, hde, hby⟩, hbv⟩ := decode_inv hd
  have hvl := (pure_llen hpu).1
  have cf : ∀ (T : Store) (K : AV → Store → Prop) (q : Dm K), SpD E 34 [.agg (valL v), enc [(2 : Int), 2]] T K q = K (.bool (fieldsP v ksS).2) T := fun T K q => c_kindsR h2 v ksS ⟨by decide, by omega⟩
  cases y2 : (fieldsP v ksS).2
  · rw [if_pos y2] at hr
    simp -dsimp only [go_sem, F16, e_splitR28, r_splitR28, c_decodeR h1, hd, cf, y2, hr]
    exact fe _ _ (pr _)
  rw [if_neg (by rw [y2]; decide)] at hr
  obtain ⟨f1, f2, f3, f4⟩ := fields_len y2
  have f2 : v.list.length = 2 := f2
  have j0 := ia_at (l := v.list) (i := 0) (by omega) .i64
  have j1 : iaddrA 4 (enc v.list) (.int .i64 1) = _ := ia_at (l := v.list) (i := 1) (by omega) .i64
  simp only [Int.natCast_zero] at j0
  simp -dsimp only [go_sem, F16, e_splitR28, r_splitR28, c_decodeR h1, hd, cf, y2, hr, j0, j1]
  exact Conv.good (pr _) (fun i h => by simp [topIds, topIdsL, enc_top] at h) (by simp only [rdS, rdSL, rd0, enc_rdS, Option.bind_some, Option.map_some])

/-! ### the document's reading is the program's -/
theorem val_eta (v : Val) : v = .mk v.kind v.num v.bytes v.list := by cases v; rfl
theorem pure_raw_eq {v : Val} (h : pureA v = true) (k : v.kind = 2) : v = rawV v.bytes := by
  obtain ⟨h1, h2, h3⟩ := pure1_2 (pureA_1 h) k
  rw [val_eta v, k, h1, List.eq_nil_of_length_eq_zero h3]; rfl
theorem pure_num_eq {v : Val} (h : pureA v = true) (k : v.kind = 1) : v = numV v.num := by
  obtain ⟨h1, h2, h3⟩ := pure1_1 (pureA_1 h) k
  rw [val_eta v, k, List.eq_nil_of_length_eq_zero h2, List.eq_nil_of_length_eq_zero h3]; rfl
theorem pure_list_eq {v : Val} (h : pureA v = true) (k : v.kind = 3) : v = listV v.list := by
  obtain ⟨_, h1, h2, h3⟩ := pure1_3 (pureA_1 h) (by omega) (by omega)
  rw [val_eta v, k, h1, List.eq_nil_of_length_eq_zero h2]; rfl
theorem len2 {l : List Val} (h : l.length = 2) : l = [at0 l 0, at0 l 1] := by
  match l, h with
  | [a, b], _ => rfl
theorem len9 {l : List Val} (h : l.length = 9) : l = [at0 l 0, at0 l 1, at0 l 2, at0 l 3, at0 l 4, at0 l 5, at0 l 6, at0 l 7, at0 l 8] := by
  match l, h with
  | [a, b, c, d, e, f, g, i, j], _ => rfl
theorem mem_back {x : Val} (h : pureA x = true) (hf : (fieldsP x ks2).2 = true) : memV (memOf x) = x := by
  obtain ⟨f1, f2, f3, f4⟩ := fields_len hf
  have f2 : x.list.length = 2 := f2
  have hl := len2 f2
  have hp := pureA_list h
  rw [hl] at f4
  simp only [List.map_cons, List.map_nil, ks2, List.cons.injEq, and_true] at f4
  have h0 : at0 x.list 0 ∈ x.list := by rw [← at0_get (by omega)]; exact List.getElem_mem _
  have h1 : at0 x.list 1 ∈ x.list := by rw [← at0_get (by omega)]; exact List.getElem_mem _
  have e0 := pure_raw_eq (hp _ h0) f4.1
  have e1 := pure_num_eq (hp _ h1) f4.2
  have e2 := pure_list_eq h f3
  rw [e2, hl, e0, e1]; rfl
theorem mems_back2 : ∀ {l : List Val} {ms : List Mem}, (∀ w, w ∈ l → pureA w = true) → memsOf l = some ms → ms.map memV = l
  | [], ms, _, h => by simp only [memsOf, Option.some.injEq] at h; subst h; rfl
  | x :: l, ms, hp, h => by
    simp only [memsOf] at h
    split at h
    · rename_i hx
      obtain ⟨m, h1, rfl⟩ := Option.map_eq_some_iff.1 h
      rw [List.map_cons, mem_back (hp x List.mem_cons_self) hx, mems_back2 (fun w hw => hp w (List.mem_cons_of_mem _ hw)) h1]
    · cases h
theorem mani_iff {v : Val} (hr : rightV v) (hf : (fieldsP v ks9).2 = true) {ms : List Mem} (hm : memsOf (at0 v.list 5).list = some ms) (hmay : mayP (maniOf v.list ms) = true) :
    bytesA (maniV (maniOf v.list ms)) = bytesA v ↔ ((at0 v.list 0).bytes = markM ∧ ¬ 1 < (at0 v.list 7).num) := by
  obtain ⟨f1, f2, f3, f4⟩ := fields_len hf
  have f2 : v.list.length = 9 := f2
  have hl := len9 f2
  have hp := pureA_list hr.1
  have f4' := f4
  rw [hl] at f4'
  simp only [List.map_cons, List.map_nil, ks9, List.cons.injEq, and_true] at f4'
  obtain ⟨k0, k1, k2, k3, k4, k5, k6, k7, k8⟩ := f4'
  have hat : ∀ i, i < 9 → pureA (at0 v.list i) = true := fun i hi => by rw [← at0_get (by omega)]; exact hp _ (List.getElem_mem _)
  have e0 := pure_raw_eq (hat 0 (by omega)) k0
  have e1 := pure_raw_eq (hat 1 (by omega)) k1
  have e2 := pure_num_eq (hat 2 (by omega)) k2
  have e3 := pure_raw_eq (hat 3 (by omega)) k3
  have e4 := pure_raw_eq (hat 4 (by omega)) k4
  have e5 := pure_list_eq (hat 5 (by omega)) k5
  have e6 := pure_num_eq (hat 6 (by omega)) k6
  have e7 := pure_num_eq (hat 7 (by omega)) k7
  have e8 := pure_raw_eq (hat 8 (by omega)) k8
  have ev := pure_list_eq hr.1 f3
  have hms := mems_back2 (at_list hp 5) hm
  have hn := (pure1_1 (pureA_1 (hat 7 (by omega))) k7).1
  constructor
  · intro h
    have := bytesA_inj (right_mani hmay) hr h
    rw [ev] at this
    simp only [maniV, listV, Val.mk.injEq, true_and] at this
    rw [hl] at this
    simp only [maniVs, List.cons.injEq, and_true] at this
    obtain ⟨a0, a1, a2, a3, a4, a5, a6, a7, a8⟩ := this
    refine ⟨?_, ?_⟩
    · rw [← a0]; rfl
    · rw [← a7]
      show ¬ 1 < goneN _
      unfold goneN; split <;> decide
  · rintro ⟨h1, h2⟩
    have hg : goneN (maniOf v.list ms) = (at0 v.list 7).num := by
      have h01 : (at0 v.list 7).num = 0 ∨ (at0 v.list 7).num = 1 := by omega
      unfold goneN maniOf
      rcases h01 with h | h <;> simp [h]
    have : maniV (maniOf v.list ms) = v := by
      conv => rhs; rw [ev, hl, e0, e1, e2, e3, e4, e5, e6, e7, e8]
      simp only [maniV, maniVs, hg, h1]
      rw [show (maniOf v.list ms).members = ms from rfl, hms]; rfl
    rw [this]
theorem readRD_0 (v : Val) (b : List UInt8) : readRD (v, 0) b = if (fieldsP v ks9).2 = false then (mani0, 11) else (memsOf (at0 v.list 5).list).elim (mani0, 11) fun ms => if mayP (maniOf v.list ms) = false ∨ bytesA (maniV (maniOf v.list ms)) ≠ b then (mani0, 11) else (maniOf v.list ms, 0) := by
  unfold readRD; rw [if_neg (by simp)]
theorem readD_0 (v : Val) : readD (v, 0) = if (fieldsP v ks9).2 = false ∨ (at0 v.list 0).bytes ≠ markM then (mani0, 11) else (memsOf (at0 v.list 5).list).elim (mani0, 11) fun ms => if mayP (maniOf v.list ms) = false ∨ 1 < (at0 v.list 7).num then (mani0, 11) else (maniOf v.list ms, 0) := by
  unfold readD; rw [if_neg (by simp)]
theorem readR_eq (b : List UInt8) : readRD (decodeP b) b = readM b := by
  obtain ⟨d, hd⟩ : ∃ d, decodeP b = d := ⟨_, rfl⟩
  rw [readM, hd]
  by_cases h0 : d.2 = 0
  · obtain ⟨v, e⟩ := d
    simp only at h0
    subst h0
    obtain ⟨hr, hb⟩ := decode_inv hd
    rw [readRD_0, readD_0]
    cases hf : (fieldsP v ks9).2 with
    | false => rw [if_pos rfl, if_pos (.inl rfl)]
    | true =>
      rw [if_neg (by decide)]
      by_cases hmk : (at0 v.list 0).bytes = markM
      · rw [if_neg (fun h => h.elim (fun h => by cases h) fun h => h hmk)]
        cases hm : memsOf (at0 v.list 5).list with
        | none => rfl
        | some ms =>
          simp only [Option.elim_some]
          cases hy : mayP (maniOf v.list ms) with
          | false => rw [if_pos (.inl rfl), if_pos (.inl rfl)]
          | true =>
            have hi := mani_iff hr hf hm hy
            rw [← hb] at hi
            by_cases h1 : 1 < (at0 v.list 7).num
            · rw [if_pos (.inr fun q => (hi.1 q).2 h1), if_pos (.inr h1)]
            · rw [if_neg (fun q => q.elim (fun q => by cases q) fun q => q (hi.2 ⟨hmk, h1⟩)), if_neg (fun q => q.elim (fun q => by cases q) h1)]
      · rw [if_pos (.inr hmk)]
        cases hm : memsOf (at0 v.list 5).list with
        | none => rfl
        | some ms =>
          simp only [Option.elim_some]
          cases hy : mayP (maniOf v.list ms) with
          | false => rw [if_pos (.inl rfl)]
          | true =>
            have hi := mani_iff hr hf hm hy
            rw [← hb] at hi
            rw [if_pos (.inr fun q => hmk (hi.1 q).1)]
  · unfold readRD readD
    rw [if_pos h0, if_pos h0]
theorem read_back {b : List UInt8} {m : Mani} (h : readM b = (m, 0)) : mayP m = true ∧ bytesA (maniV m) = b := by
  rw [← readR_eq] at h
  unfold readRD at h
  split at h
  · rename_i h0; simp only [Prod.mk.injEq] at h; exact absurd h.2 h0
  · split at h
    · simp at h
    · cases hm : memsOf (at0 (decodeP b).1.list 5).list with
      | none => rw [hm] at h; simp at h
      | some ms =>
        rw [hm] at h
        simp only [Option.elim_some] at h
        split at h
        · simp at h
        · rename_i hc
          simp only [Prod.mk.injEq, and_true] at h
          simp only [not_or, Bool.not_eq_false, ne_eq, Decidable.not_not] at hc
          rw [← h]; exact hc
theorem readM_long (b : List UInt8) : longM (readM b).1 := by
  have h0 : longM mani0 := ⟨by simp [mani0], by simp [mani0], by simp [mani0], ⟨by simp [mani0], fun x hx => by cases hx⟩, by simp [mani0]⟩
  unfold readM readD
  split
  · exact h0
  · rename_i he
    split
    · exact h0
    · simp only [ne_eq, Decidable.not_not] at he
      obtain ⟨hr, hb⟩ := decode_inv (b := b) (v := (decodeP b).1) (Prod.ext rfl he)
      cases hm : memsOf (at0 (decodeP b).1.list 5).list with
      | none => exact h0
      | some ms =>
        simp only [Option.elim_some]
        split
        · exact h0
        · exact maniOf_long (pureA_list hr.1) (by rw [memsOf_len hm]; exact (at_len (pureA_list hr.1) 5).1) (mems_long (at_list (pureA_list hr.1) 5) hm)
theorem ok_manifestReads {E : Env} (hp : E.prim 4 = none) (hf : E.F 4 = some F4) (h1 : E.prim 5 = some fun _ => p_awake28) (h2 : E.prim 10 = some fun _ => p_read28) (h3 : E.prim 14 = some fun _ => p_readR28)
    (h4 : E.prim 13 = some fun _ => p_sameR28) (h5 : E.prim 7 = some fun _ => p_text28) (h6 : E.prim 11 = some fun _ => p_bsame) (h7 : E.prim 15 = some fun _ => p_split28) (h8 : E.prim 16 = some fun _ => p_splitR28) : OkS E 4 e_manifestReads (gd k_manifestReads r_manifestReads) := by
  refine OkS.code hp hf (fun _ => rfl) fun b hk => ?_
  cases y1 : decide ((1000 : Int) < (b.length : Int))
  rotate_left
  · simp -dsimp only [go_sem, F4, e_manifestReads, r_manifestReads, c_awake28 h1, y1]
  have hbl : b.length ≤ 1000 := by have := of_decide_eq_false y1; omega
  have hrr : ∀ (T : Store) (K : AV → Store → Prop) (q : Dm K), SpD E 14 [enc b] T K q = K (.tup [.agg (maniL (readM b).1), .int .i64 (readM b).2]) T := fun T K q => by
    have := c_readR28 h3 b (S := T) (K := K) (d := q)
    rw [readR_eq] at this; exact this
  obtain ⟨m, hm⟩ : ∃ m, (readM b).1 = m := ⟨_, rfl⟩
  obtain ⟨e, he⟩ : ∃ e, (readM b).2 = e := ⟨_, rfl⟩
  have hl : longM m := by rw [← hm]; exact readM_long b
  rw [hm, he] at hrr
  have hrd : ∀ (T : Store) (K : AV → Store → Prop) (q : Dm K), SpD E 10 [enc b] T K q = K (.tup [.agg (maniL m), .int .i64 e]) T := fun T K q => by
    have := c_read28 h2 b (S := T) (K := K) (d := q)
    rw [hm, he] at this; exact this
  have cs : ∀ (S : Store) (K : AV → Store → Prop) (d : Dm K), SpD E 13 [.agg (maniL m), .agg (maniL m)] S K d = K (.bool (decide (m = m))) S := fun _ _ _ => c_sameR28 h4 m m ⟨hl, hl⟩
  have ct : ∀ (S : Store) (K : AV → Store → Prop) (d : Dm K), SpD E 7 [.agg (maniL m)] S K d = K (.tup [enc (textP m).1, .int .i64 (textP m).2]) S := fun _ _ _ => c_text28 h5 m hl
  obtain ⟨s1, hs1⟩ : ∃ s1, (splitP b).1 = s1 := ⟨_, rfl⟩
  obtain ⟨s2, hs2⟩ : ∃ s2, (splitP b).2.1 = s2 := ⟨_, rfl⟩
  have hsl : s1.length ≤ 1048576 ∧ s2.length ≤ 1048576 := by
    rw [← hs1, ← hs2]
    unfold splitP splitD
    split
    · exact ⟨by simp, by simp⟩
    · rename_i he
      split
      · exact ⟨by simp, by simp⟩
      · simp only [ne_eq, Decidable.not_not] at he
        obtain ⟨hr, hb⟩ := decode_inv (b := b) (v := (decodeP b).1) (Prod.ext rfl he)
        exact ⟨(at_len (pureA_list hr.1) 0).2, (at_len (pureA_list hr.1) 1).2⟩
  have b1 := fun (T : Store) (K : AV → Store → Prop) (q : Dm K) => c_bsame h6 s1 s1 (by omega) (S := T) (K := K) (d := q)
  have b2 := fun (T : Store) (K : AV → Store → Prop) (q : Dm K) => c_bsame h6 s2 s2 (by omega) (S := T) (K := K) (d := q)
  have b3 := fun (T : Store) (K : AV → Store → Prop) (q : Dm K) => c_bsame h6 b b (by omega) (S := T) (K := K) (d := q)
  simp only [decide_true] at cs b1 b2 b3
  cases y2 : decide (e = 0)
  · simp -dsimp only [go_sem, F4, e_manifestReads, r_manifestReads, c_awake28 h1, y1, hrd, hrr, cs, y2, c_split28 h7, c_splitR28 h8, hs1, hs2, b1, b2]
  · have e0 := of_decide_eq_true y2
    subst e0
    obtain ⟨k1, k2⟩ := read_back (b := b) (m := m) (Prod.ext hm he)
    have ht : textP m = (b, 0) := by unfold textP; rw [if_pos k1, k2]
    simp -dsimp only [go_sem, F4, e_manifestReads, r_manifestReads, c_awake28 h1, y1, hrd, hrr, cs, ct, ht, b3, c_split28 h7, c_splitR28 h8, hs1, hs2, b1, b2]
end Go.Proofs.Ytaajlbbooneiiaa.Avm
set_option linter.unusedVariables false
set_option maxRecDepth 100000
namespace Go.Proofs.Ytaajlbbooneiiaa.Avm
open Go
noncomputable def E1 : Env := E0.add 5 p_awake28
theorem A1 : AllOK Try.prog E1 := AllOK.addRun hmix A0 (Scal.gd fun _ => Scal.bool _) (awake_is)
noncomputable def E2 : Env := E1.add 43 p_is
theorem A2 : AllOK Try.prog E2 := AllOK.addS hmix A1 (Scal.gd fun _ => Scal.bool _) (by apply ok_is <;> rfl)
noncomputable def E3 : Env := E2.add 35 p_name
theorem A3 : AllOK Try.prog E3 := AllOK.addS hmix A2 (Scal.gd fun _ => Scal.bool _) (by apply ok_name <;> rfl)
noncomputable def E4 : Env := E3.add 24 p_nameR
theorem A4 : AllOK Try.prog E4 := AllOK.addS hmix A3 (Scal.gd fun _ => Scal.bool _) (by apply ok_nameR <;> rfl)
noncomputable def E5 : Env := E4.add 56 p_with
theorem A5 : AllOK Try.prog E5 := AllOK.addG hmix A4 (by apply ok_with <;> rfl)
noncomputable def E6 : Env := E5.add 44 p_owners
theorem A6 : AllOK Try.prog E6 := AllOK.addS hmix A5 (Scal.gd fun _ => Scal.int _ _) (by apply ok_owners <;> rfl)
noncomputable def E7 : Env := E6.add 36 p_right
theorem A7 : AllOK Try.prog E7 := AllOK.addS hmix A6 (Scal.gd fun _ => Scal.bool _) (by apply ok_right <;> rfl)
noncomputable def E8 : Env := E7.add 39 p_ownersR
theorem A8 : AllOK Try.prog E8 := AllOK.addS hmix A7 (Scal.gd fun _ => Scal.int _ _) (by apply ok_ownersR <;> rfl)
noncomputable def E9 : Env := E8.add 25 p_rightR
theorem A9 : AllOK Try.prog E9 := AllOK.addS hmix A8 (Scal.gd fun _ => Scal.bool _) (by apply ok_rightR <;> rfl)
noncomputable def E10 : Env := E9.add 32 p_sameR
theorem A10 : AllOK Try.prog E10 := AllOK.addS hmix A9 (Scal.gd fun _ => Scal.bool _) (by apply ok_sameR <;> rfl)
noncomputable def E11 : Env := E10.add 11 p_bsame
theorem A11 : AllOK Try.prog E11 := AllOK.addS hmix A10 (Scal.gd fun _ => Scal.bool _) (by apply ok_bsame <;> rfl)
noncomputable def E12 : Env := E11.add 17 p_may
theorem A12 : AllOK Try.prog E12 := AllOK.addS hmix A11 (Scal.gd fun _ => Scal.bool _) (by apply ok_may <;> rfl)
noncomputable def E13 : Env := E12.add 8 p_mayR
theorem A13 : AllOK Try.prog E13 := AllOK.addS hmix A12 (Scal.gd fun _ => Scal.bool _) (by apply ok_mayR <;> rfl)
noncomputable def E14 : Env := E13.add 9 p_begins
theorem A14 : AllOK Try.prog E14 := AllOK.addS hmix A13 (Scal.gd fun _ => Scal.int _ _) (by apply ok_begins <;> rfl)
noncomputable def E15 : Env := E14.add 6 p_fewM
theorem A15 : AllOK Try.prog E15 := AllOK.addS hmix A14 (Scal.gd fun _ => Scal.bool _) (by apply ok_fewM <;> rfl)
noncomputable def E16 : Env := E15.add 50 (primO (fun l : List UInt8 => [enc l]) (ownRow 1000000000000))
theorem A16 : AllOK Try.prog E16 := AllOK.addN hmix A15 ((ok_cloneF (α := UInt8) (m := 1000000000000) rfl rfl rfl (by decide)))
noncomputable def E17 : Env := E16.add 58 p_low
theorem A17 : AllOK Try.prog E17 := AllOK.addG hmix A16 (by apply ok_low <;> rfl)
noncomputable def E18 : Env := E17.add 59 p_turned
theorem A18 : AllOK Try.prog E18 := AllOK.addG hmix A17 (by apply ok_turned <;> rfl)
noncomputable def E19 : Env := E18.add 47 p_put01
theorem A19 : AllOK Try.prog E19 := AllOK.addG hmix A18 (by apply ok_put01 <;> rfl)
noncomputable def E20 : Env := E19.add 60 p_get01
theorem A20 : AllOK Try.prog E20 := AllOK.addS hmix A19 (Scal.gd fun _ => Scal.tup2 (Scal.int _ _) (Scal.int _ _)) (by apply ok_get01 <;> rfl)
noncomputable def E21 : Env := E20.add 46 p_plain
theorem A21 : AllOK Try.prog E21 := AllOK.addG hmix A20 (by apply ok_plain <;> rfl)
noncomputable def E22 : Env := E21.add 57 p_pure
theorem A22 : AllOK Try.prog E22 := AllOK.addS hmix A21 (Scal.gd fun _ => Scal.bool _) (by apply ok_pure <;> rfl)
noncomputable def E23 : Env := E22.add 45 (p_measure 17)
theorem A23 : AllOK Try.prog E23 := AllOK.recS hmix A22 rfl (fun _ => Scal.tup2 (Scal.int _ _) (Scal.bool _)) (fun ⟨v, r, d⟩ h => by have := h.1; have := h.2.1; omega) (fun d => okB_measure rfl rfl rfl) 17
noncomputable def E24 : Env := E23.add 37 p_size
theorem A24 : AllOK Try.prog E24 := AllOK.addS hmix A23 (Scal.gd fun _ => Scal.tup2 (Scal.int _ _) (Scal.bool _)) (by apply ok_size <;> rfl)
noncomputable def E25 : Env := E24.add 21 p_encode
theorem A25 : AllOK Try.prog E25 := AllOK.addG hmix A24 ((ok_encode rfl rfl rfl rfl rfl rfl rfl fun v h => ⟨((size_iff v).1 h).1, ((size_iff v).1 h).2.2⟩))
noncomputable def E26 : Env := E25.add 18 p_of02
theorem A26 : AllOK Try.prog E26 := AllOK.addE hmix A25 (ok_of02 rfl rfl)
noncomputable def E27 : Env := E26.add 20 p_num02
theorem A27 : AllOK Try.prog E27 := AllOK.addG hmix A26 (by apply ok_num02 <;> rfl)
noncomputable def E28 : Env := E27.add 22 p_raw02
theorem A28 : AllOK Try.prog E28 := AllOK.addG hmix A27 (by apply ok_raw02 <;> rfl)
noncomputable def E29 : Env := E28.add 48 p_take
theorem A29 : AllOK Try.prog E29 := AllOK.addM hmix A28 (by apply ok_take <;> rfl)
noncomputable def E30 : Env := E29.add 52 p_fail
theorem A30 : AllOK Try.prog E30 := AllOK.addM hmix A29 (by apply ok_fail <;> rfl)
noncomputable def E31 : Env := E30.add 51 p_count
theorem A31 : AllOK Try.prog E31 := AllOK.addM hmix A30 (by apply ok_count <;> rfl)
noncomputable def E32 : Env := E31.add 49 p_number
theorem A32 : AllOK Try.prog E32 := AllOK.addM hmix A31 (by apply ok_number <;> rfl)
noncomputable def E33 : Env := E32.add 40 (p_value 17)
theorem A33 : AllOK Try.prog E33 := AllOK.recM hmix A32 rfl (fun s n h => by have := h.1; omega) (fun d => okB_value rfl rfl rfl rfl rfl rfl rfl rfl) 17
noncomputable def E34 : Env := E33.add 26 p_decode
theorem A34 : AllOK Try.prog E34 := AllOK.addG hmix A33 (by apply ok_decode <;> rfl)
noncomputable def E35 : Env := E34.add 27 p_fields
theorem A35 : AllOK Try.prog E35 := AllOK.addG hmix A34 (by apply ok_fields <;> rfl)
noncomputable def E36 : Env := E35.add 53 p_lowR
theorem A36 : AllOK Try.prog E36 := AllOK.addG hmix A35 (by apply ok_lowR <;> rfl)
noncomputable def E37 : Env := E36.add 54 p_turnedR
theorem A37 : AllOK Try.prog E37 := AllOK.addG hmix A36 (by apply ok_turnedR <;> rfl)
noncomputable def E38 : Env := E37.add 41 p_putR
theorem A38 : AllOK Try.prog E38 := AllOK.addG hmix A37 (by apply ok_putR <;> rfl)
noncomputable def E39 : Env := E38.add 55 p_getR
theorem A39 : AllOK Try.prog E39 := AllOK.addS hmix A38 (Scal.gd fun _ => Scal.tup2 (Scal.int _ _) (Scal.int _ _)) (by apply ok_getR <;> rfl)
noncomputable def E40 : Env := E39.add 31 (p_bytesR 17)
theorem A40 : AllOK Try.prog E40 := AllOK.recG hmix A39 rfl (fun v h => by have := h.2.1; omega) (fun d => okB_bytesR rfl rfl) 17
noncomputable def E41 : Env := E40.add 42 (p_readR 17)
theorem A41 : AllOK Try.prog E41 := AllOK.recG hmix A40 rfl (fun ⟨b, a, n⟩ h => by have := h.1; omega) (fun d => okB_readR rfl rfl) 17
noncomputable def E42 : Env := E41.add 33 p_decodeR
theorem A42 : AllOK Try.prog E42 := AllOK.addG hmix A41 (by apply ok_decodeR <;> rfl)
noncomputable def E43 : Env := E42.add 28 p_ofR28
theorem A43 : AllOK Try.prog E43 := AllOK.addG hmix A42 (by apply ok_ofR28 <;> rfl)
noncomputable def E44 : Env := E43.add 30 p_numR28
theorem A44 : AllOK Try.prog E44 := AllOK.addG hmix A43 (by apply ok_numR28 <;> rfl)
noncomputable def E45 : Env := E44.add 29 p_rawR28
theorem A45 : AllOK Try.prog E45 := AllOK.addG hmix A44 (by apply ok_rawR28 <;> rfl)
noncomputable def E46 : Env := E45.add 34 p_kindsR
theorem A46 : AllOK Try.prog E46 := AllOK.addS hmix A45 (Scal.gd fun _ => Scal.bool _) (by apply ok_kindsR <;> rfl)
noncomputable def E47 : Env := E46.add 19 p_word28
theorem A47 : AllOK Try.prog E47 := AllOK.addG hmix A46 (by apply ok_word28 <;> rfl)
noncomputable def E48 : Env := E47.add 23 p_bit28
theorem A48 : AllOK Try.prog E48 := AllOK.addS hmix A47 (Scal.gd fun _ => Scal.int _ _) (by apply ok_bit28 <;> rfl)
noncomputable def E49 : Env := E48.add 7 p_text28
theorem A49 : AllOK Try.prog E49 := AllOK.addG hmix A48 (by apply ok_text28 <;> rfl)
noncomputable def E50 : Env := E49.add 10 p_read28
theorem A50 : AllOK Try.prog E50 := AllOK.addG hmix A49 (by apply ok_read28 <;> rfl)
noncomputable def E51 : Env := E50.add 12 p_textR28
theorem A51 : AllOK Try.prog E51 := AllOK.addH hmix A50 (by apply ok_textR28 <;> rfl)
noncomputable def E52 : Env := E51.add 13 p_sameR28
theorem A52 : AllOK Try.prog E52 := AllOK.addS hmix A51 (Scal.gd fun _ => Scal.bool _) (by apply ok_sameR28 <;> rfl)
noncomputable def E53 : Env := E52.add 14 p_readR28
theorem A53 : AllOK Try.prog E53 := AllOK.addGW hmix A52 (by apply ok_readR28 <;> rfl)
noncomputable def E54 : Env := E53.add 15 p_split28
theorem A54 : AllOK Try.prog E54 := AllOK.addG hmix A53 (by apply ok_split28 <;> rfl)
noncomputable def E55 : Env := E54.add 16 p_splitR28
theorem A55 : AllOK Try.prog E55 := AllOK.addG hmix A54 (by apply ok_splitR28 <;> rfl)
theorem lawReads_is (a : List UInt8) (h : k_manifestReads a) : ∃ S1, Is E55 4 (e_manifestReads a) [] (.bool true) S1 :=
  have k : OkS E55 4 e_manifestReads (gd k_manifestReads r_manifestReads) := by apply ok_manifestReads <;> rfl
  k a _ (gd_eq h)
theorem reads_env : AllOK Try.prog E55 := A55
end Go.Proofs.Ytaajlbbooneiiaa.Avm
set_option linter.unusedVariables false
namespace Go.Proofs.Ytaajlbbooneiiaa.Avm
open Go.ChangeShapes Go.WideShapes Go.ChangeAt Go.RowKit
theorem own : ownKnob Try.prog.godebug = none := by kernel_rfl
theorem laidOut : laidOutB Try.prog = true := by kernel_rfl
theorem opByte : Opens Try.prog 5 (Rec.c (α := UInt8)) (fun _ => True) :=
  (Opens.int Try.underlying5).byte
theorem opBytes : Opens Try.prog 22 (fun l : List UInt8 => [enc l]) (fun l => l.length ≤ maxLen ∧ ∀ a ∈ l, True) := Opens.slice Try.underlying22 (by kernel_rfl) opByte
theorem back22 : Back1 Try.prog 22 := ⟨by kernel_rfl, of_decide_eq_true (by kernel_rfl)⟩
theorem opBytes1 : Opens1 Try.prog 22 (fun l : List UInt8 => enc l) (fun l => l.length ≤ maxLen ∧ ∀ a ∈ l, True) := Opens1.slice Try.underlying22 opBytes
end Go.Proofs.Ytaajlbbooneiiaa.Avm
set_option linter.unusedVariables false
namespace Go.Proofs.Ytaajlbbooneiiaa.Avm
open Go.ChangeShapes Go.WideShapes Go.ChangeAt Go.RowKit
theorem opLawReads : OpensA Try.prog [22] e_manifestReads fun b => b.length ≤ maxLen ∧ ∀ x ∈ b, True := .one laidOut back22 opBytes1
set_option maxRecDepth 100000 in
theorem liftedReads (os : Os) (started : os.Started) (H : Type) (en : TypeId × Value → H) :
    ReturnsInHanded {} Try.checked os 4 .any (Rows.manifestReadsSpec.pre6 en Try.prog Try.f4 Rows.manifestReadsRow.domain false) (Rows.manifestReadsSpec.post en Try.prog Try.f4 false true false false) :=
  law_lifted (C := Try.checked) own started (by kernel_rfl) Try.func4
    (ChangeSpec.witness6 (enc := en) (C := Try.checked) false ⟨#[], #[.slice none 0 0], []⟩ 8 (by kernel_rfl) (by kernel_rfl) (by kernel_rfl) (by kernel_rfl))
    (by kernel_rfl) (by kernel_rfl) hmix reads_env opLawReads rfl (fun ds h => by
      match ds, h with
      | [a], _ => rfl) rfl Try.underlying4 fun a h => lawReads_is a h.1
theorem overReads : Rows.manifestReadsRow.holds Try.pinned (OpenSpec.ofChange Rows.manifestReadsSpec) :=
  OpenClaim.holds_of_wide 4 Try.f4 rfl rfl rfl rfl rfl rfl rfl ⟨rfl, rfl, rfl, rfl, rfl⟩ rfl rfl rfl rfl rfl (by kernel_rfl) Try.func4 (by kernel_rfl)
    (of_decide_eq_true (by kernel_rfl)) (by unfold Func.isWrapper; first | (rw [if_pos (by decide +kernel)]; kernel_rfl) | (rw [if_neg (by decide +kernel)]; exact ⟨rfl, rfl⟩))
    (fun os started H enc _ => liftedReads os started H enc)
end Go.Proofs.Ytaajlbbooneiiaa.Avm
namespace Go.Proofs.Ytaajlbbooneiiaa
/-- The row, under a short name, for the claim. -/
theorem manifestReads_holds : Rows.ManifestReadsSaid := Avm.overReads
#print axioms manifestReads_holds
end Go.Proofs.Ytaajlbbooneiiaa
