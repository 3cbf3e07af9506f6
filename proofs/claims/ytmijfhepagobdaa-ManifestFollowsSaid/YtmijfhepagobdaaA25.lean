/- Ways to say what a function does, and the words of the walk. -/
import Derived.Test.YtmijfhepagobdaaA24
set_option linter.unusedVariables false
set_option linter.unusedSimpArgs false
set_option linter.unusedSectionVars false
namespace Go.Proofs.Ytmijfhepagobdaa.Avm

open Classical in
/-- an answer, where a condition holds -/
noncomputable def gd {α : Type} (k : α → Prop) (r : α → AV) (a : α) : Option AV := if k a then some (r a) else none
theorem gd_inv {α : Type} {k : α → Prop} {r : α → AV} {a : α} {v : AV} (h : gd k r a = some v) : k a ∧ v = r a := by
  unfold gd at h
  split at h
  · rename_i hk; cases h; exact ⟨hk, rfl⟩
  · cases h
theorem gd_eq {α : Type} {k : α → Prop} {r : α → AV} {a : α} (h : k a) : gd k r a = some (r a) := if_pos h

section
variable {α : Type} {E : Env} {f : Nat} {fn : AFunc} {enc : α → List AV} {k : α → Prop} {r : α → AV}
theorem OkS.code (hp : E.prim f = none) (hf : E.F f = some fn) (hl : ∀ a, (enc a).length = fn.np) (h : ∀ a, k a → wpC E fn.body (initA (enc a)) [] (fin fn.res fun v _ => v = r a) .mk) : OkS E f enc (gd k r) := fun a v hv => by
  obtain ⟨hk, rfl⟩ := gd_inv hv
  obtain ⟨v, S', rfl, hi⟩ := Sp.intro hp hf (hl a) (h a hk)
  exact ⟨S', hi⟩
theorem OkG.code (hp : E.prim f = none) (hf : E.F f = some fn) (hl : ∀ a, (enc a).length = fn.np) (h : ∀ a S, k a → wpC E fn.body (initA (enc a)) S (fin fn.res fun v T => Conv S T v S (r a)) .mk) : OkG E f enc (gd k r) := fun a v S hv => by
  obtain ⟨hk, rfl⟩ := gd_inv hv
  obtain ⟨v, S', hc, hi⟩ := Sp.intro hp hf (hl a) (h a S hk)
  exact ⟨v, S', hi, hc⟩
variable {S : Store} {args : List AV} {a : α} {K : AV → Store → Prop} {d : Dm K}
theorem Is.prim {p : List AV → Store → Option (AV × Store)} {v : AV} {S' : Store} (h : E.prim f = some fun _ => p) (hp : p args S = some (v, S')) : Is E f args S v S' :=
  ⟨1, fun n hn => by cases n with | zero => omega | succ n => simp only [run, h]; exact hp⟩
theorem callS (h : E.prim f = some fun _ => primS enc (gd k r)) (hi : Inj enc) (hr : rdSL S args = some (enc a)) (hk : k a) : SpD E f args S K d = K (r a) S :=
  Is.spD (Is.prim h (primS_eq hi hr (gd_eq hk))) K d
theorem callG (h : E.prim f = some fun _ => primG enc (gd k r)) (hi : Inj enc) (hr : rdSL S args = some (enc a)) (hk : k a) : SpD E f args S K d = K (r a) (killL (topIdsL args) S) :=
  Is.spD (Is.prim h (primG_eq hi hr (gd_eq hk))) K d
end

/-- scalars -/
theorem Scal.int (k : IntKind) (n : Int) : Scal (.int k n) := fun w0 w1 φ φ' cv h => by cases h; exact .int _ _
theorem Scal.bool (b : Bool) : Scal (.bool b) := fun w0 w1 φ φ' cv h => by cases h; exact .bool _
theorem Scal.str (s : List UInt8) : Scal (.str s) := fun w0 w1 φ φ' cv h => by cases h; exact .str _
theorem Scal.tup2 {a b : AV} (ha : Scal a) (hb : Scal b) : Scal (.tup [a, b]) := fun w0 w1 φ φ' cv h => by
  obtain ⟨cvs, rfl, k⟩ := h.tup_inv
  obtain ⟨c1, l1, rfl, k1, k2⟩ := k.cons_inv
  obtain ⟨c2, l2, rfl, k3, k4⟩ := k2.cons_inv
  have : l2 = [] := List.eq_nil_of_length_eq_zero k4.1.symm
  subst this
  have := Vs.cons (ha _ w1 _ φ' _ k1) (Vs.cons (hb _ w1 _ φ' _ k3) .nil)
  exact .tup this.1 this.2
theorem Scal.gd {α : Type} {k : α → Prop} {r : α → AV} (h : ∀ a, Scal (r a)) : ∀ a v, gd k r a = some v → Scal v := fun a v hv => by obtain ⟨_, rfl⟩ := gd_inv hv; exact h a

/-! reading -/
theorem rdS_int (S : Store) (k : IntKind) (n : Int) : rdS S (.int k n) = some (.int k n) := rfl
theorem rdS_bool (S : Store) (b : Bool) : rdS S (.bool b) = some (.bool b) := rfl
theorem rdS_str (S : Store) (s : List UInt8) : rdS S (.str s) = some (.str s) := rfl
theorem rdS_nilS (S : Store) : rdS S .nilS = some (.csl [] 0) := rfl
theorem rdS_agg (S : Store) (cs : List AV) : rdS S (.agg cs) = (rdSL S cs).map .agg := rfl
theorem rdS_tup (S : Store) (cs : List AV) : rdS S (.tup cs) = (rdSL S cs).map .tup := rfl
theorem rdS_fn0 (S : Store) (f : Nat) : rdS S (.fn f []) = some (.fn f []) := rfl
theorem rdS_csl0 (S : Store) : rdS S (.csl [] 0) = some (.csl [] 0) := rfl
theorem rdSL_nil (S : Store) : rdSL S [] = some [] := rfl
theorem rdSL_cons (S : Store) (v : AV) (l : List AV) : rdSL S (v :: l) = (rdS S v).bind fun u => (rdSL S l).map (u :: ·) := rfl
mutual
theorem rd0_rdS (S : Store) : ∀ (v u : AV), rd0 v = some u → rdS S v = some u
  | .agg cs, u, h => by
    simp only [rd0, Option.map_eq_some_iff] at h
    obtain ⟨ds, h, rfl⟩ := h
    simp only [rdS, rd0L_rdSL S _ _ h]; rfl
  | .tup cs, u, h => by
    simp only [rd0, Option.map_eq_some_iff] at h
    obtain ⟨ds, h, rfl⟩ := h
    simp only [rdS, rd0L_rdSL S _ _ h]; rfl
  | .sl _ _ _ _, u, h | .slc _ _ _ _ _, u, h => by simp [rd0] at h
  | .nilS, u, h | .emp, u, h | .nsl, u, h | .csl _ _, u, h | .csln _ _, u, h | .cptr _, u, h | .fn _ _, u, h | .int _ _, u, h | .bool _, u, h
  | .str _, u, h | .nilP, u, h | .nilM, u, h | .nilC, u, h | .nilF, u, h | .nilI, u, h | .ptr _ _, u, h | .map _, u, h | .chan _, u, h | .junk, u, h => h
theorem rd0L_rdSL (S : Store) : ∀ (l m : List AV), rd0L l = some m → rdSL S l = some m
  | [], m, h => h
  | v :: l, m, h => by
    simp only [rd0L, Option.bind_eq_some_iff, Option.map_eq_some_iff] at h
    obtain ⟨u, h1, us, h2, rfl⟩ := h
    simp only [rdSL, rd0_rdS S _ _ h1, Option.bind_some, rd0L_rdSL S _ _ h2, Option.map_some]
end
theorem rdSL_pure {S : Store} {l : List AV} (h : PureL l) : rdSL S l = some l := rd0L_rdSL S l l h
theorem rdSL_rec {α : Type} [Rec α] (S : Store) (a : α) : rdSL S (Rec.c a) = some (Rec.c a) := rdSL_pure (Rec.pure a)
theorem rdS_rec {α : Type} [Rec α] (S : Store) (a : α) : rdS S (.agg (Rec.c a)) = some (.agg (Rec.c a)) := by rw [rdS_agg, rdSL_rec]; rfl
mutual
theorem top_rd0 : ∀ (v u : AV), rd0 v = some u → topIds v = []
  | .agg cs, u, h => by
    simp only [rd0, Option.map_eq_some_iff] at h
    obtain ⟨ds, h, rfl⟩ := h
    simp only [topIds]; exact topL_rd0 _ _ h
  | .tup cs, u, h => by
    simp only [rd0, Option.map_eq_some_iff] at h
    obtain ⟨ds, h, rfl⟩ := h
    simp only [topIds]; exact topL_rd0 _ _ h
  | .sl _ _ _ _, u, h | .slc _ _ _ _ _, u, h => by simp [rd0] at h
  | .nilS, u, h | .emp, u, h | .nsl, u, h | .csl _ _, u, h | .csln _ _, u, h | .cptr _, u, h | .fn _ _, u, h | .int _ _, u, h | .bool _, u, h
  | .str _, u, h | .nilP, u, h | .nilM, u, h | .nilC, u, h | .nilF, u, h | .nilI, u, h | .ptr _ _, u, h | .map _, u, h | .chan _, u, h | .junk, u, h => rfl
theorem topL_rd0 : ∀ (l m : List AV), rd0L l = some m → topIdsL l = []
  | [], m, h => rfl
  | v :: l, m, h => by
    simp only [rd0L, Option.bind_eq_some_iff, Option.map_eq_some_iff] at h
    obtain ⟨u, h1, us, h2, rfl⟩ := h
    simp only [topIdsL, top_rd0 _ _ h1, topL_rd0 _ _ h2, List.append_nil]
end
theorem topL_pure {l : List AV} (h : PureL l) : topIdsL l = [] := topL_rd0 l l h
theorem top_int (k : IntKind) (n : Int) : topIds (.int k n) = [] := rfl
theorem top_bool (b : Bool) : topIds (.bool b) = [] := rfl
theorem top_str (s : List UInt8) : topIds (.str s) = [] := rfl
theorem top_nilS : topIds .nilS = [] := rfl
theorem top_csl (cs : List AV) (n : Nat) : topIds (.csl cs n) = [] := rfl
theorem top_agg (cs : List AV) : topIds (.agg cs) = topIdsL cs := rfl
theorem top_tup (cs : List AV) : topIds (.tup cs) = topIdsL cs := rfl
theorem top_rec {α : Type} [Rec α] (a : α) : topIdsL (Rec.c a) = [] := topL_pure (Rec.pure a)
theorem top_fn (f : Nat) (cs : List AV) : topIds (.fn f cs) = [] := rfl
theorem top_sl (i o n z : Nat) : topIds (.sl i o n z) = [i] := rfl
theorem topL_nil : topIdsL [] = [] := rfl
theorem topL_cons (v : AV) (l : List AV) : topIdsL (v :: l) = topIds v ++ topIdsL l := rfl

theorem wrapS {i : Nat} (h : i < 9223372036854775807) : IntKind.i64.wrap ((i : Int) + 1) = ((i + 1 : Nat) : Int) := by
  rw [wrap64 (by omega) (by omega)]; omega

attribute [go_sem] thnV_some thn_some' w_skip w_reg w_regF w_seq w_blkseq w_blkreg w_blkcond w_blkblk w_blkskip w_blkret w_blkexit seqK_n seqK_r seqK_e blkK_n blkK_r blkK_e w_cond w_exit w_ret insK_eq insKt_eq i_nil i_nn i_sn i_ng i_sg
  o_mv o_call o_callv o_bin o_una o_new o_load o_fn o_map o_pick o_len o_sidx o_box o_build o_lit o_litf o_litn o_store o_nilck o_eqb o_eqn o_eqs o_i2i o_same o_s2b o_s2bf o_mark o_b2s o_mksl o_faddr o_field o_iaddr o_aaddr o_look o_mapu o_ext o_mlen o_append o_clear o_mx o_slice o_slicex o_sslice
  pick_true pick_false cnd_true' cnd_false' byV_bool' byV_tup' ifV_bool' callV_fn' thnR_some' fin_ret fin_norm evs_nil evs_cons ev_l ev_v ev_k upd_apply init_at g0 gS List.nil_append List.cons_append List.length_cons List.length_nil
  b_add b_sub b_mul b_eql b_neq b_lss b_leq b_gtr b_geq s_eql s_neq s_lss s_gtr s_leq s_geq una_not una_neg Option.map_some Option.map_none Option.bind_some Bool.true_eq_false Bool.false_eq_true beq_self_eq_true Bool.not_true Bool.not_false if_true if_false ite_true ite_false
  Nat.reduceEqDiff reduceCtorEq res_nil res_tmp one_one one_two one_none Nat.reduceAdd bne_self_eq_false decide_true decide_false beq_iff_eq Int.natCast_nonneg Int.toNat_natCast lenA_str lenA_nilS lenA_sl lenA_slc lenA_csl len_enc
  c_str c_int c_bool c_agg c_nilS c_nilP c_csl c_sl c_slc c_ptr c_map c_nilM c_fn enc_cells boxA_eq litA_eq litfA_eq litnA_eq markA_eq fillA_nil fillA_cons nilck_ptr nilck_cptr nilck_fn eqb_eq eqb_ne i2i_int same_str faddr_ptr faddr_cptr fieldA_agg fieldA_one ext_tup
  ld_c1 ld_cn get_new get_new0 set_new set_new0 loadA_eq1 loadA_eqn ldO_1 ldO_n storeA_eq stO_c mx_int mx_nil mxs_cons List.getElem?_cons_zero List.getElem?_cons_succ List.drop_succ_cons List.drop_zero List.take_succ_cons List.take_zero List.set_cons_zero List.set_cons_succ List.append_assoc List.append_nil List.length_append
  Int.reduceLE Int.reduceLT Int.reduceNeg Int.reduceEq Int.reduceGT Int.reduceGE Int.reduceAdd Int.reduceSub Int.reduceMul
  eq_self rnd_n rnd_r rnd_e beq_true beq_false Bool.not_not List.drop_nil List.take_nil Nat.zero_add Nat.add_zero true_and and_true Nat.reduceMul Nat.reduceLeDiff List.getElem?_nil List.getElem_cons_zero List.getElem_cons_succ ne_eq not_false_eq_true List.length_set

end Go.Proofs.Ytmijfhepagobdaa.Avm
