/- The law of epochs' texts. The environment of the law of padded blobs. The environment of the codec, above blobs. The environment of the law of epochs' texts. The row and the card of the law RecordEpoch. -/
import Derived.Test.YtaajlbbooneiiaaDoorZ16
import Derived.Test.YtaajlbbooneiiaaDoorZ13
import Derived.Test.YtaajlbbooneiiaaDoorZ14
set_option linter.unusedVariables false
set_option linter.unusedSimpArgs false
set_option maxRecDepth 10000
namespace Go.Proofs.YtaajlbbooneiiaaDoor.Avm

theorem ok_recordEpoch {E : Env} (hp : E.prim 6 = none) (hf : E.F 6 = some F6) (h1 : E.prim 7 = some fun _ => p_awake35) (h2 : E.prim 26 = some fun _ => p_textE) (h3 : E.prim 27 = some fun _ => p_mayER)
    (h4 : E.prim 28 = some fun _ => p_readE) (h5 : E.prim 31 = some fun _ => p_readER) (h6 : E.prim 10 = some fun _ => p_bsame) (h7 : E.prim 29 = some fun _ => p_textER) (h8 : E.prim 30 = some fun _ => p_sameE) :
    OkS E 6 e_recordEpoch (gd k_recordEpoch r_recordEpoch) := by
  refine OkS.code hp hf (fun _ => rfl) fun ⟨r, b⟩ hk => ?_
  obtain ⟨k1, k2, k3, k4, k5, k6⟩ := (hk : b.length ≤ 9223372036854775807 ∧ r.digest.length ≤ 9223372036854775807 ∧ r.pub.length ≤ 9223372036854775807 ∧ r.link.length ≤ 9223372036854775807 ∧ (r.chain.length ≤ 9223372036854775807 ∧ ∀ x, x ∈ r.chain → x.name.length ≤ 9223372036854775807))
  cases x1 : decide ((20 : Int) < (r.folder.length : Int))
  rotate_left
  · simp -dsimp only [go_sem, F6, e_recordEpoch, r_recordEpoch, c_awake35 h1, x1]
  cases x2 : decide ((20 : Int) < (r.by'.length : Int))
  rotate_left
  · simp -dsimp only [go_sem, F6, e_recordEpoch, r_recordEpoch, c_awake35 h1, x1, x2]
  cases x3 : decide ((10 : Int) < (r.chain.length : Int))
  rotate_left
  · simp -dsimp only [go_sem, F6, e_recordEpoch, r_recordEpoch, c_awake35 h1, x1, x2, x3]
  cases x4 : decide ((100 : Int) < (r.digest.length : Int))
  rotate_left
  · simp -dsimp only [go_sem, F6, e_recordEpoch, r_recordEpoch, c_awake35 h1, x1, x2, x3, x4]
  cases x5 : decide ((100 : Int) < (r.pub.length : Int))
  rotate_left
  · simp -dsimp only [go_sem, F6, e_recordEpoch, r_recordEpoch, c_awake35 h1, x1, x2, x3, x4, x5]
  cases x6 : decide ((200 : Int) < (r.link.length : Int))
  rotate_left
  · simp -dsimp only [go_sem, F6, e_recordEpoch, r_recordEpoch, c_awake35 h1, x1, x2, x3, x4, x5, x6]
  cases x7 : decide ((1500 : Int) < (b.length : Int))
  rotate_left
  · simp -dsimp only [go_sem, F6, e_recordEpoch, r_recordEpoch, c_awake35 h1, x1, x2, x3, x4, x5, x6, x7]
  have z1 := of_decide_eq_false x1
  have z2 := of_decide_eq_false x2
  have z3 := of_decide_eq_false x3
  have z4 := of_decide_eq_false x4
  have z5 := of_decide_eq_false x5
  have z6 := of_decide_eq_false x6
  have z7 := of_decide_eq_false x7
  have lr : longE r := ⟨⟨by omega, by omega⟩, by omega, by omega, by omega, by omega, k6⟩
  have ly := readE_long b
  have ct : ∀ (S : Store) (K : AV → Store → Prop) (d : Dm K), SpD E 26 [.agg (epoL r)] S K d = K (.tup [enc (textEP r).1, .int .i64 (textEP r).2]) S := fun _ _ _ => c_textE h2 r lr
  have cm : ∀ (S : Store) (K : AV → Store → Prop) (d : Dm K), SpD E 27 [.agg (epoL r)] S K d = K (.bool (mayE r)) S := fun _ _ _ => c_mayER h3 r lr
  obtain ⟨y, hy⟩ : ∃ y, readE b = y := ⟨_, rfl⟩
  rw [hy] at ly
  have cy1 : ∀ (S : Store) (K : AV → Store → Prop) (d : Dm K), SpD E 28 [enc b] S K d = K (.tup [.agg (epoL y.1), .int .i64 y.2]) S := fun S K d => by have := c_readE h4 b (S := S) (K := K) (d := d); rw [hy] at this; exact this
  have cy2 : ∀ (S : Store) (K : AV → Store → Prop) (d : Dm K), SpD E 31 [enc b] S K d = K (.tup [.agg (epoL y.1), .int .i64 y.2]) S := fun S K d => by have := c_readER h5 b (S := S) (K := K) (d := d); rw [hy] at this; exact this
  have cs : ∀ a : EpoR, longE a → ∀ (S : Store) (K : AV → Store → Prop) (d : Dm K), SpD E 30 [.agg (epoL a), .agg (epoL a)] S K d = K (.bool true) S := fun a la S K d => by
    have := c_sameE h8 a a la (S := S) (K := K) (d := d)
    rw [decide_eq_true rfl] at this; exact this
  have cs1 := cs r lr
  have cs2 := cs y.1 ly
  have cty : ∀ (S : Store) (K : AV → Store → Prop) (d : Dm K), SpD E 26 [.agg (epoL y.1)] S K d = K (.tup [enc (textEP y.1).1, .int .i64 (textEP y.1).2]) S := fun _ _ _ => c_textE h2 y.1 ly
  have cb : ∀ l : List UInt8, l.length ≤ 1048576 → ∀ (S : Store) (K : AV → Store → Prop) (d : Dm K), SpD E 10 [enc l, enc l] S K d = K (.bool true) S := fun l hl S K d => by
    have := c_bsame h6 l l (by omega) (S := S) (K := K) (d := d)
    rw [decide_eq_true rfl] at this; exact this
  have cb2 := cb b (by omega)
  cases y2 : mayE r
  · have ht : textEP r = ([], 2) := if_neg (by simp [y2])
    cases y3 : decide (y.2 = 0)
    · simp -dsimp only [go_sem, F6, e_recordEpoch, r_recordEpoch, c_awake35 h1, x1, x2, x3, x4, x5, x6, x7, ct, ht, cm, y2, cy1, cy2, cs2, cty, y3]
    · have hv := read_invE (b := b) (r := y.1) (by rw [hy]; exact Prod.ext rfl (of_decide_eq_true y3))
      have hty : textEP y.1 = (b, 0) := by rw [textEP, if_pos hv.1, hv.2]
      rw [hty] at cty
      simp -dsimp only [go_sem, F6, e_recordEpoch, r_recordEpoch, c_awake35 h1, x1, x2, x3, x4, x5, x6, x7, ct, ht, cm, y2, cy1, cy2, cs2, cty, y3, cb2]
  · have ht : textEP r = (bytesA (epoV r), 0) := if_pos y2
    have hr := read_epo y2
    have hl := (right_epo y2).2.2
    have cr : ∀ (S : Store) (K : AV → Store → Prop) (d : Dm K), SpD E 28 [enc (bytesA (epoV r))] S K d = K (.tup [.agg (epoL r), .int .i64 0]) S := fun S K d => by have := c_readE h4 (bytesA (epoV r)) (S := S) (K := K) (d := d); rw [hr] at this; exact this
    have cx : ∀ (S : Store) (K : AV → Store → Prop) (d : Dm K), SpD E 29 [.agg (epoL r)] S K d = K (enc (bytesA (epoV r))) S := fun _ _ _ => c_textER h7 r y2
    have cb1 := cb (bytesA (epoV r)) hl
    cases y3 : decide (y.2 = 0)
    · simp -dsimp only [go_sem, F6, e_recordEpoch, r_recordEpoch, c_awake35 h1, x1, x2, x3, x4, x5, x6, x7, ct, ht, cm, y2, cr, cx, cb1, cs1, cy1, cy2, cs2, cty, y3]
    · have hv := read_invE (b := b) (r := y.1) (by rw [hy]; exact Prod.ext rfl (of_decide_eq_true y3))
      have hty : textEP y.1 = (b, 0) := by rw [textEP, if_pos hv.1, hv.2]
      rw [hty] at cty
      simp -dsimp only [go_sem, F6, e_recordEpoch, r_recordEpoch, c_awake35 h1, x1, x2, x3, x4, x5, x6, x7, ct, ht, cm, y2, cr, cx, cb1, cs1, cy1, cy2, cs2, cty, y3, cb2]
end Go.Proofs.YtaajlbbooneiiaaDoor.Avm
set_option linter.unusedVariables false
set_option maxRecDepth 100000
namespace Go.Proofs.YtaajlbbooneiiaaDoor.Avm.Bl
open Go
noncomputable def E1 : Env := E0.add 8 p_pad
theorem A1 : AllOK Tryd.prog E1 := AllOK.move A0 Pd.env Pd.pad_is
noncomputable def E2 : Env := E1.add 7 p_awake35
theorem A2 : AllOK Tryd.prog E2 := AllOK.move A1 base_env rfl
noncomputable def E3 : Env := E2.add 10 p_bsame
theorem A3 : AllOK Tryd.prog E3 := AllOK.addS hmix A2 (Scal.gd fun _ => Scal.bool _) (by apply ok_bsame <;> rfl)
noncomputable def E4 : Env := E3.add 39 (primO (fun l : List UInt8 => [enc l]) (ownRow 1000000000000))
theorem A4 : AllOK Tryd.prog E4 := AllOK.addN hmix A3 ((ok_cloneF (α := UInt8) (m := 1000000000000) rfl rfl rfl (by decide)))
noncomputable def E5 : Env := E4.add 36 p_get01
theorem A5 : AllOK Tryd.prog E5 := AllOK.addS hmix A4 (Scal.gd fun _ => Scal.tup2 (Scal.int _ _) (Scal.int _ _)) (by apply ok_get01 <;> rfl)
noncomputable def E6 : Env := E5.add 34 p_sized
theorem A6 : AllOK Tryd.prog E6 := AllOK.addS hmix A5 (Scal.gd fun _ => Scal.bool _) (by apply ok_sized <;> rfl)
noncomputable def E7 : Env := E6.add 9 p_padR
theorem A7 : AllOK Tryd.prog E7 := AllOK.addG hmix A6 (by apply ok_padR <;> rfl)
noncomputable def E8 : Env := E7.add 38 p_notz
theorem A8 : AllOK Tryd.prog E8 := AllOK.addS hmix A7 (Scal.gd fun _ => Scal.bool _) (by apply ok_notz <;> rfl)
noncomputable def E9 : Env := E8.add 62 p_idxz
theorem A9 : AllOK Tryd.prog E9 := AllOK.addS hmix A8 (Scal.gd fun _ => Scal.int _ _) (by apply ok_idxz <;> rfl)
noncomputable def E10 : Env := E9.add 37 p_anyz
theorem A10 : AllOK Tryd.prog E10 := AllOK.addS hmix A9 (Scal.gd fun _ => Scal.bool _) (by apply ok_anyz <;> rfl)
noncomputable def E11 : Env := E10.add 11 p_unpad
theorem A11 : AllOK Tryd.prog E11 := AllOK.addG hmix A10 (by apply ok_unpad <;> rfl)
noncomputable def E12 : Env := E11.add 12 p_unpadR
theorem A12 : AllOK Tryd.prog E12 := AllOK.addG hmix A11 (by apply ok_unpadR <;> rfl)
theorem law_is (a : List UInt8 × Int) (h : k_recordBlobs a) : ∃ S1, Is E12 3 (e_recordBlobs a) [] (.bool true) S1 :=
  have k : OkS E12 3 e_recordBlobs (gd k_recordBlobs r_recordBlobs) := by apply ok_recordBlobs <;> rfl
  k a _ (gd_eq h)
theorem env : AllOK Tryd.prog E12 := A12
end Go.Proofs.YtaajlbbooneiiaaDoor.Avm.Bl
set_option linter.unusedVariables false
set_option maxRecDepth 100000
namespace Go.Proofs.YtaajlbbooneiiaaDoor.Avm.Cd
open Go
noncomputable abbrev E0 : Env := Bl.E12
theorem A0 : AllOK Tryd.prog E0 := Bl.env
noncomputable def E1 : Env := E0.add 60 p_low
theorem A1 : AllOK Tryd.prog E1 := AllOK.addG hmix A0 (by apply ok_low <;> rfl)
noncomputable def E2 : Env := E1.add 61 p_turned
theorem A2 : AllOK Tryd.prog E2 := AllOK.addG hmix A1 (by apply ok_turned <;> rfl)
noncomputable def E3 : Env := E2.add 35 p_put01
theorem A3 : AllOK Tryd.prog E3 := AllOK.addG hmix A2 (by apply ok_put01 <;> rfl)
noncomputable def E4 : Env := E3.add 78 p_plain
theorem A4 : AllOK Tryd.prog E4 := AllOK.addG hmix A3 (by apply ok_plain <;> rfl)
noncomputable def E5 : Env := E4.add 89 p_pure
theorem A5 : AllOK Tryd.prog E5 := AllOK.addS hmix A4 (Scal.gd fun _ => Scal.bool _) (by apply ok_pure <;> rfl)
noncomputable def E6 : Env := E5.add 77 (p_measure 17)
theorem A6 : AllOK Tryd.prog E6 := AllOK.recS hmix A5 rfl (fun _ => Scal.tup2 (Scal.int _ _) (Scal.bool _)) (fun ⟨v, r, d⟩ h => by have := h.1; have := h.2.1; omega) (fun d => okB_measure rfl rfl rfl) 17
noncomputable def E7 : Env := E6.add 63 p_size
theorem A7 : AllOK Tryd.prog E7 := AllOK.addS hmix A6 (Scal.gd fun _ => Scal.tup2 (Scal.int _ _) (Scal.bool _)) (by apply ok_size <;> rfl)
noncomputable def E8 : Env := E7.add 43 p_encode
theorem A8 : AllOK Tryd.prog E8 := AllOK.addG hmix A7 ((ok_encode rfl rfl rfl rfl rfl rfl rfl fun v h => ⟨((size_iff v).1 h).1, ((size_iff v).1 h).2.2⟩))
noncomputable def E9 : Env := E8.add 40 p_of02
theorem A9 : AllOK Tryd.prog E9 := AllOK.addE hmix A8 (ok_of02 rfl rfl)
noncomputable def E10 : Env := E9.add 41 p_num02
theorem A10 : AllOK Tryd.prog E10 := AllOK.addG hmix A9 (by apply ok_num02 <;> rfl)
noncomputable def E11 : Env := E10.add 42 p_raw02
theorem A11 : AllOK Tryd.prog E11 := AllOK.addG hmix A10 (by apply ok_raw02 <;> rfl)
noncomputable def E12 : Env := E11.add 81 p_take
theorem A12 : AllOK Tryd.prog E12 := AllOK.addM hmix A11 (by apply ok_take <;> rfl)
noncomputable def E13 : Env := E12.add 84 p_fail
theorem A13 : AllOK Tryd.prog E13 := AllOK.addM hmix A12 (by apply ok_fail <;> rfl)
noncomputable def E14 : Env := E13.add 83 p_count
theorem A14 : AllOK Tryd.prog E14 := AllOK.addM hmix A13 (by apply ok_count <;> rfl)
noncomputable def E15 : Env := E14.add 82 p_number
theorem A15 : AllOK Tryd.prog E15 := AllOK.addM hmix A14 (by apply ok_number <;> rfl)
noncomputable def E16 : Env := E15.add 66 (p_value 17)
theorem A16 : AllOK Tryd.prog E16 := AllOK.recM hmix A15 rfl (fun s n h => by have := h.1; omega) (fun d => okB_value rfl rfl rfl rfl rfl rfl rfl rfl) 17
noncomputable def E17 : Env := E16.add 48 p_decode
theorem A17 : AllOK Tryd.prog E17 := AllOK.addG hmix A16 (by apply ok_decode <;> rfl)
noncomputable def E18 : Env := E17.add 54 p_fields
theorem A18 : AllOK Tryd.prog E18 := AllOK.addG hmix A17 (by apply ok_fields <;> rfl)
noncomputable def E19 : Env := E18.add 79 p_lowR
theorem A19 : AllOK Tryd.prog E19 := AllOK.addG hmix A18 (by apply ok_lowR <;> rfl)
noncomputable def E20 : Env := E19.add 80 p_turnedR
theorem A20 : AllOK Tryd.prog E20 := AllOK.addG hmix A19 (by apply ok_turnedR <;> rfl)
noncomputable def E21 : Env := E20.add 65 p_putR
theorem A21 : AllOK Tryd.prog E21 := AllOK.addG hmix A20 (by apply ok_putR <;> rfl)
noncomputable def E22 : Env := E21.add 85 p_getR
theorem A22 : AllOK Tryd.prog E22 := AllOK.addS hmix A21 (Scal.gd fun _ => Scal.tup2 (Scal.int _ _) (Scal.int _ _)) (by apply ok_getR <;> rfl)
noncomputable def E23 : Env := E22.add 46 (p_bytesR 17)
theorem A23 : AllOK Tryd.prog E23 := AllOK.recG hmix A22 rfl (fun v h => by have := h.2.1; omega) (fun d => okB_bytesR rfl rfl) 17
noncomputable def E24 : Env := E23.add 67 (p_readR 17)
theorem A24 : AllOK Tryd.prog E24 := AllOK.recG hmix A23 rfl (fun ⟨b, a, n⟩ h => by have := h.1; omega) (fun d => okB_readR rfl rfl) 17
noncomputable def E25 : Env := E24.add 49 p_decodeR
theorem A25 : AllOK Tryd.prog E25 := AllOK.addG hmix A24 (by apply ok_decodeR <;> rfl)
noncomputable def E26 : Env := E25.add 47 p_ofR28
theorem A26 : AllOK Tryd.prog E26 := AllOK.addG hmix A25 (by apply ok_ofR28 <;> rfl)
noncomputable def E27 : Env := E26.add 44 p_numR28
theorem A27 : AllOK Tryd.prog E27 := AllOK.addG hmix A26 (by apply ok_numR28 <;> rfl)
noncomputable def E28 : Env := E27.add 45 p_rawR28
theorem A28 : AllOK Tryd.prog E28 := AllOK.addG hmix A27 (by apply ok_rawR28 <;> rfl)
noncomputable def E29 : Env := E28.add 56 p_kindsR
theorem A29 : AllOK Tryd.prog E29 := AllOK.addS hmix A28 (Scal.gd fun _ => Scal.bool _) (by apply ok_kindsR <;> rfl)
theorem env : AllOK Tryd.prog E29 := A29
noncomputable abbrev EL : Env := E29
end Go.Proofs.YtaajlbbooneiiaaDoor.Avm.Cd
set_option linter.unusedVariables false
set_option maxRecDepth 100000
namespace Go.Proofs.YtaajlbbooneiiaaDoor.Avm.Ep
open Go
noncomputable abbrev E0 : Env := Cd.EL
theorem A0 : AllOK Tryd.prog E0 := Cd.env
noncomputable def E1 : Env := E0.add 68 p_name
theorem A1 : AllOK Tryd.prog E1 := AllOK.addS hmix A0 (Scal.gd fun _ => Scal.bool _) (by apply ok_name <;> rfl)
noncomputable def E2 : Env := E1.add 52 p_nameR
theorem A2 : AllOK Tryd.prog E2 := AllOK.addS hmix A1 (Scal.gd fun _ => Scal.bool _) (by apply ok_nameR <;> rfl)
noncomputable def E3 : Env := E2.add 69 p_seq35
theorem A3 : AllOK Tryd.prog E3 := AllOK.addS hmix A2 (Scal.gd fun _ => Scal.bool _) (by apply ok_seq35 <;> rfl)
noncomputable def E4 : Env := E3.add 70 p_long35
theorem A4 : AllOK Tryd.prog E4 := AllOK.addS hmix A3 (Scal.gd fun _ => Scal.bool _) (by apply ok_long35 <;> rfl)
noncomputable def E5 : Env := E4.add 53 p_inR35
theorem A5 : AllOK Tryd.prog E5 := AllOK.addS hmix A4 (Scal.gd fun _ => Scal.bool _) (by apply ok_inR35 <;> rfl)
noncomputable def E6 : Env := E5.add 51 p_text35
theorem A6 : AllOK Tryd.prog E6 := AllOK.addG hmix A5 (by apply ok_text35 <;> rfl)
noncomputable def E7 : Env := E6.add 55 p_textR35
theorem A7 : AllOK Tryd.prog E7 := AllOK.addG hmix A6 (by apply ok_textR35 <;> rfl)
noncomputable def E8 : Env := E7.add 71 p_chain35
theorem A8 : AllOK Tryd.prog E8 := AllOK.addS hmix A7 (Scal.gd fun _ => Scal.bool _) (by apply ok_chain35 <;> rfl)
noncomputable def E9 : Env := E8.add 57 p_mayE
theorem A9 : AllOK Tryd.prog E9 := AllOK.addS hmix A8 (Scal.gd fun _ => Scal.bool _) (by apply ok_mayE <;> rfl)
noncomputable def E10 : Env := E9.add 27 p_mayER
theorem A10 : AllOK Tryd.prog E10 := AllOK.addS hmix A9 (Scal.gd fun _ => Scal.bool _) (by apply ok_mayER <;> rfl)
noncomputable def E11 : Env := E10.add 26 p_textE
theorem A11 : AllOK Tryd.prog E11 := AllOK.addG hmix A10 (by apply ok_textE <;> rfl)
noncomputable def E12 : Env := E11.add 29 p_textER
theorem A12 : AllOK Tryd.prog E12 := AllOK.addH hmix A11 (by apply ok_textER <;> rfl)
noncomputable def E13 : Env := E12.add 28 p_readE
theorem A13 : AllOK Tryd.prog E13 := AllOK.addG hmix A12 (by apply ok_readE <;> rfl)
noncomputable def E14 : Env := E13.add 31 p_readER
theorem A14 : AllOK Tryd.prog E14 := AllOK.addGW hmix A13 (by apply ok_readER <;> rfl)
noncomputable def E15 : Env := E14.add 30 p_sameE
theorem A15 : AllOK Tryd.prog E15 := AllOK.addS hmix A14 (Scal.gd fun _ => Scal.bool _) (by apply ok_sameE <;> rfl)
theorem law_is (a : EpoR × List UInt8) (h : k_recordEpoch a) : ∃ S1, Is E15 6 (e_recordEpoch a) [] (.bool true) S1 :=
  have k : OkS E15 6 e_recordEpoch (gd k_recordEpoch r_recordEpoch) := by apply ok_recordEpoch <;> rfl
  k a _ (gd_eq h)
theorem env : AllOK Tryd.prog E15 := A15
end Go.Proofs.YtaajlbbooneiiaaDoor.Avm.Ep
set_option linter.unusedVariables false
namespace Go.Proofs.YtaajlbbooneiiaaDoor.Avm
open Go.ChangeShapes Go.WideShapes Go.ChangeAt Go.RowKit
theorem opMem : Opens Tryd.prog 97 (Rec.c (α := Mem)) (fun m => m.name.length ≤ maxLen) :=
  (Opens.struct Tryd.underlying97 (tot := 2) (by kernel_rfl) rfl (.cons (Opens.str Tryd.underlying9) (off := 1) (by kernel_rfl) (.one (Opens.int Tryd.underlying3) (by kernel_rfl)))).as (fun p => ⟨p.1, p.2⟩) (fun _ => rfl) (fun _ h => h.1)
theorem opMems : Opens Tryd.prog 56 (fun l : List Mem => [enc l]) (fun l => l.length ≤ maxLen ∧ ∀ a ∈ l, a.name.length ≤ maxLen) := Opens.slice Tryd.underlying56 (by kernel_rfl) opMem
def epoQ (r : EpoR) : Prop := r.digest.length ≤ maxLen ∧ r.pub.length ≤ maxLen ∧ r.link.length ≤ maxLen ∧ (r.chain.length ≤ maxLen ∧ ∀ a ∈ r.chain, a.name.length ≤ maxLen)
theorem opEpo : Opens Tryd.prog 58 epoL epoQ :=
  (Opens.struct Tryd.underlying58 (tot := 10) (by kernel_rfl) rfl (.cons (Opens.str Tryd.underlying9) (off := 1) (by kernel_rfl) (.cons (Opens.int Tryd.underlying3) (off := 2) (by kernel_rfl) (.cons (Opens.int Tryd.underlying3) (off := 3) (by kernel_rfl)
    (.cons (Opens.int Tryd.underlying3) (off := 4) (by kernel_rfl) (.cons (Opens.int Tryd.underlying3) (off := 5) (by kernel_rfl) (.cons opBytes (off := 6) (by kernel_rfl) (.cons opMems (off := 7) (by kernel_rfl)
    (.cons opBytes (off := 8) (by kernel_rfl) (.cons opBytes (off := 9) (by kernel_rfl) (.one (Opens.str Tryd.underlying9) (by kernel_rfl)))))))))))).as
    (fun p => ⟨p.1, p.2.1, p.2.2.1, p.2.2.2.1, p.2.2.2.2.1, p.2.2.2.2.2.1, p.2.2.2.2.2.2.1, p.2.2.2.2.2.2.2.1, p.2.2.2.2.2.2.2.2.1, p.2.2.2.2.2.2.2.2.2⟩) (fun _ => rfl) (fun _ h => ⟨h.2.2.2.2.2.1.1, h.2.2.2.2.2.2.2.1.1, h.2.2.2.2.2.2.2.2.1.1, h.2.2.2.2.2.2.1⟩)
theorem backV : Back1 Tryd.prog 58 := ⟨by kernel_rfl, of_decide_eq_true (by kernel_rfl)⟩
theorem opEpo1 : Opens1 Tryd.prog 58 (fun r : EpoR => .agg (epoL r)) epoQ := Opens1.struct Tryd.underlying58 opEpo
theorem opEpoch : OpensA Tryd.prog [58, 22] e_recordEpoch k_recordEpoch :=
  (OpensA.cons laidOut backV opEpo1 (OpensA.one laidOut backB opBytes1)).as id (fun _ => rfl) fun p h => ⟨h.2.1, h.1.1, h.1.2.1, h.1.2.2.1, h.1.2.2.2⟩
set_option maxRecDepth 100000 in
theorem liftedEpoch (os : Os) (started : os.Started) (H : Type) (en : TypeId × Value → H) :
    ReturnsInHanded {} Tryd.checked os 6 .any (fun w args => (Rows.recordEpochSpec.pre en Tryd.prog Tryd.f6 Rows.recordEpochRow.domain false w args ∧ laidMetH Tryd.prog laid3 w) ∧ sizedMet en Tryd.prog Tryd.f6 (OpenSpec.ofChange Rows.recordEpochSpec) false w args)
      (Rows.recordEpochSpec.post en Tryd.prog Tryd.f6 false true false false) :=
  law_laid (C := Tryd.checked) (X := fun w _ => laidMetH Tryd.prog laid3 w) (fun _ _ _ hh h => h.of_heap hh) own started (by kernel_rfl) Tryd.func6
    (ChangeSpec.witness_shaped (enc := en) (C := Tryd.checked) (os := os) (X := fun w _ => laidMetH Tryd.prog laid3 w) false (World.doorLaid Tryd.prog 24 os) #[.agg #[.string ByteArray.empty, .int .i64 0, .int .i64 0, .int .i64 0, .int .i64 0, .slice none 0 0, .slice none 0 0, .slice none 0 0, .slice none 0 0, .string ByteArray.empty], .slice none 0 0] 8 rfl (World.shaped_of_RefB (by kernel_rfl) (by kernel_rfl)) (by kernel_rfl) (by kernel_rfl) (by kernel_rfl) (door_met os _))
    (by kernel_rfl) (by kernel_rfl) hmix Ep.env opEpoch rfl (fun ds h => by
      match ds, h with
      | [a, b], _ => rfl) rfl Tryd.underlying4 fun a h => Ep.law_is a h
theorem overEpoch : Rows.recordEpochRow.holds Tryd.pinned (OpenSpec.ofChange Rows.recordEpochSpec) :=
  OpenClaim.holds_of_wide 6 Tryd.f6 rfl rfl rfl rfl rfl rfl rfl ⟨rfl, rfl, rfl, rfl, rfl⟩ rfl rfl rfl rfl rfl (by kernel_rfl) Tryd.func6 (by kernel_rfl)
    (of_decide_eq_true (by kernel_rfl)) (by unfold Func.isWrapper; first | (rw [if_pos (by decide +kernel)]; kernel_rfl) | (rw [if_neg (by decide +kernel)]; exact ⟨rfl, rfl⟩))
    (fun os started H enc _ => liftedEpoch os started H enc)
theorem cardEpoch : Rows.RecordEpochCardSaid :=
  Claim7.holds_tied_plain_at .later [] [.data, .data, .data] true (true, "e55152458ed226ca7f1b8a51d1e5809449f217fe6effbf2a061d9a1bd2503f07") false
    overEpoch (fun _ h => by cases h) (by kernel_rfl) (fun _ h => by cases h) recordEpoch_row_tie rfl ⟨rfl, rfl⟩ (by kernel_rfl) rfl
    (fun f fn hf hfn => by
      obtain rfl : f = 6 := Option.some.inj ((show Tryd.prog.funcNamed Rows.recordEpochRow.func = some 6 by kernel_rfl).symm.trans hf) |>.symm
      obtain rfl : fn = Tryd.f6 := (Option.some.inj (Tryd.func6.symm.trans hfn)).symm
      exact ⟨by kernel_rfl, fun j t ht => by
        rw [Tryd.params6] at ht
        have hm : t ∈ [58, 22] := by simpa using Array.mem_of_getElem? ht
        have hall : ([58, 22].all fun u => !Tryd.prog.wantsStandIn u) = true := by kernel_rfl
        exact (show Tryd.prog.wantsStandIn t = false by simpa using List.all_eq_true.1 hall t hm)⟩)
    (by kernel_rfl)
end Go.Proofs.YtaajlbbooneiiaaDoor.Avm
namespace Go.Proofs.YtaajlbbooneiiaaDoor
/-- The card, under a short name, for the claim. -/
theorem recordEpoch_holds : Rows.RecordEpochCardSaid := Avm.cardEpoch
#print axioms recordEpoch_holds
end Go.Proofs.YtaajlbbooneiiaaDoor
