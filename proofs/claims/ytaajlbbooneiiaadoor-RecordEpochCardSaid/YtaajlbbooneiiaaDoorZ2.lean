/- What the walk reckons by. From the program's own code to the abstract machine's: types looked up, temporaries of a region by their place. What an abstract value, an abstract store and an abstract frame say of the machine's. -/
import Derived.Test.YtaajlbbooneiiaaDoorZ1
import Derived.Orders
import Derived.Below
import Derived.Laws.World
import Derived.WalkKit
set_option linter.unusedVariables false
set_option linter.unusedSimpArgs false
namespace Go.Proofs.YtaajlbbooneiiaaDoor.Avm

section
variable {k : IntKind} {a b : Int}
theorem b_add : abin .add (.int k a) (.int k b) = some (.int k (k.wrap (a + b))) := by simp [abin]
theorem b_sub : abin .sub (.int k a) (.int k b) = some (.int k (k.wrap (a - b))) := by simp [abin]
theorem b_mul : abin .mul (.int k a) (.int k b) = some (.int k (k.wrap (a * b))) := by simp [abin]
theorem b_quo (h : b ≠ 0) : abin .quo (.int k a) (.int k b) = some (.int k (k.wrap (a.tdiv b))) := by simp [abin, h]
theorem b_rem (h : b ≠ 0) : abin .rem (.int k a) (.int k b) = some (.int k (a.tmod b)) := by simp [abin, h]
theorem b_and : abin .and (.int k a) (.int k b) = some (.int k (k.wrap (BitVec.ofInt k.bits a &&& BitVec.ofInt k.bits b).toNat)) := by simp [abin]
theorem b_or : abin .or (.int k a) (.int k b) = some (.int k (k.wrap (BitVec.ofInt k.bits a ||| BitVec.ofInt k.bits b).toNat)) := by simp [abin]
theorem b_xor : abin .xor (.int k a) (.int k b) = some (.int k (k.wrap (BitVec.ofInt k.bits a ^^^ BitVec.ofInt k.bits b).toNat)) := by simp [abin]
theorem b_eql : abin .eql (.int k a) (.int k b) = some (.bool (decide (a = b))) := by simp [abin]
theorem b_neq : abin .neq (.int k a) (.int k b) = some (.bool (!decide (a = b))) := by simp [abin]
theorem b_lss : abin .lss (.int k a) (.int k b) = some (.bool (decide (a < b))) := by simp [abin]
theorem b_leq : abin .leq (.int k a) (.int k b) = some (.bool (decide (a ≤ b))) := by simp [abin]
theorem b_gtr : abin .gtr (.int k a) (.int k b) = some (.bool (decide (b < a))) := by simp [abin]
theorem b_geq : abin .geq (.int k a) (.int k b) = some (.bool (decide (b ≤ a))) := by simp [abin]
theorem b_shl {k' : IntKind} (h : 0 ≤ b) : abin .shl (.int k a) (.int k' b) = some (.int k (k.wrap (a * 2 ^ (min b.toNat k.bits)))) := by simp [abin, Int.not_lt.2 h]
theorem b_shr {k' : IntKind} (h : 0 ≤ b) : abin .shr (.int k a) (.int k' b) = some (.int k (a.fdiv (2 ^ (min b.toNat k.bits)))) := by simp [abin, Int.not_lt.2 h]
end
section
variable {a b : List UInt8}
theorem s_add (h : a.length + b.length ≤ 140737488355328) : abin .add (.str a) (.str b) = some (.str (a ++ b)) := by simp [abin, h]
theorem s_eql : abin .eql (.str a) (.str b) = some (.bool (decide (a = b))) := rfl
theorem s_neq : abin .neq (.str a) (.str b) = some (.bool (!decide (a = b))) := rfl
theorem s_lss : abin .lss (.str a) (.str b) = some (.bool (Op.bytesLess a b)) := rfl
theorem s_gtr : abin .gtr (.str a) (.str b) = some (.bool (!(Op.bytesLess a b || decide (a = b)))) := rfl
theorem s_leq : abin .leq (.str a) (.str b) = some (.bool (Op.bytesLess a b || decide (a = b))) := rfl
theorem s_geq : abin .geq (.str a) (.str b) = some (.bool (!Op.bytesLess a b)) := rfl
end

theorem wrap64 {x : Int} (h1 : -9223372036854775808 ≤ x) (h2 : x ≤ 9223372036854775807) : IntKind.i64.wrap x = x := by
  simp [IntKind.wrap, IntKind.signed, IntKind.bits]; omega
theorem wrapu64 {x : Int} (h1 : 0 ≤ x) (h2 : x ≤ 18446744073709551615) : IntKind.u64.wrap x = x := by
  simp [IntKind.wrap, IntKind.signed, IntKind.bits]; omega
theorem wrapu8 (x : Int) : IntKind.u8.wrap x = x % 256 := by
  simp [IntKind.wrap, IntKind.signed, IntKind.bits]

theorem g0 {a : AV} {l : List AV} {d : AV} : (a :: l).getD 0 d = a := rfl
theorem gS {a : AV} {l : List AV} {d : AV} {n : Nat} : (a :: l).getD (n + 1) d = l.getD n d := rfl
theorem ev_l (g : Frame) (L : List AV) (i : Nat) : ev g L (.l i) = L.getD i .undef := rfl
theorem ev_v (g : Frame) (L : List AV) (t : Nat) : ev g L (.v t) = g t := rfl
theorem ev_k (g : Frame) (L : List AV) (v : AV) : ev g L (.k v) = v := rfl
theorem init_at (args : List AV) (i : Nat) : initA args i = args.getD i .undef := rfl

/-! equations of the walk; their proofs are no rfl, so that a proof term is left at each step -/
section
variable {E : Env} {g : Frame} {S : Store} {L : List AV} {K : AV → Store → Prop} {d : Dm K} {Q : AExit → Frame → Store → Prop} {q : Dm Q}
def thnV (r : Option AV) (K : AV → Store → Prop) (S : Store) (_ : Dm K) : Prop := match r with | some v => K v S | none => False
theorem thnV_some (v : AV) : thnV (some v) K S d = K v S := propext ⟨id, id⟩
theorem thn_some' (v : AV) : thn (some (v, S)) K d = K v S := propext ⟨id, id⟩
theorem thn_map (r : Option AV) : thn (r.map fun v => (v, S)) K d = thnV r K S d := by cases r <;> exact propext ⟨id, id⟩
theorem w_skip : wpC E .skip g S Q q = Q .normal g S := propext ⟨id, id⟩
theorem w_reg (ins : List AIns) : wpC E (.region ins []) g S Q q = wpI E ins g S [] (fun g' S' _ => Q .normal g' S') .mk := propext ⟨id, id⟩
theorem w_regF (ins : List AIns) (p : Nat × Nat) (fl : List (Nat × Nat)) : wpC E (.region ins (p :: fl)) g S Q q = ExF E ins (p :: fl) g S Q q := propext ⟨id, id⟩
/-- goes on behind -/
def seqK (E : Env) (b : ACode) (Q : AExit → Frame → Store → Prop) (q : Dm Q) : AExit → Frame → Store → Prop := fun ex g' S' => match ex with | .normal => wpC E b g' S' Q q | ex => Q ex g' S'
def blkK (id : Nat) (Q : AExit → Frame → Store → Prop) : AExit → Frame → Store → Prop := fun ex g' S' => match ex with | .exit i => if i = id then Q .normal g' S' else Q (.exit i) g' S' | ex => Q ex g' S'
theorem w_seq (a b : ACode) : wpC E (.seq a b) g S Q q = wpC E a g S (seqK E b Q q) .mk := propext ⟨id, id⟩
theorem w_block (id' : Nat) (c : ACode) : wpC E (.block id' c) g S Q q = wpC E c g S (blkK id' Q) .mk := propext ⟨id, id⟩
theorem seqK_n (b : ACode) : seqK E b Q q .normal g S = wpC E b g S Q q := propext ⟨id, id⟩
theorem seqK_r (b : ACode) : seqK E b Q q .ret g S = Q .ret g S := propext ⟨id, id⟩
theorem seqK_e (b : ACode) (i : Nat) : seqK E b Q q (.exit i) g S = Q (.exit i) g S := propext ⟨id, id⟩
theorem blkK_n (i : Nat) : blkK i Q .normal g S = Q .normal g S := propext ⟨id, id⟩
theorem blkK_r (i : Nat) : blkK i Q .ret g S = Q .ret g S := propext ⟨id, id⟩
theorem blkK_e (i j : Nat) : blkK i Q (.exit j) g S = if j = i then Q .normal g S else Q (.exit j) g S := propext ⟨id, id⟩
theorem w_cond (c : AX) (a b : ACode) : wpC E (.cond c a b) g S Q q = ifV (ev g [] c) (wpC E a g S Q q) (wpC E b g S Q q) .mk .mk := propext ⟨id, id⟩
theorem w_loop (c : ACode) : wpC E (.loop c) g S Q q = ExL E c g S Q q := propext ⟨id, id⟩
theorem w_exit (i : Nat) : wpC E (.exit i) g S Q q = Q (.exit i) g S := propext ⟨id, id⟩
theorem w_ret : wpC E .ret g S Q q = Q .ret g S := propext ⟨id, id⟩
end
section
variable {E : Env} {g : Frame} {S : Store} {L : List AV} {R : Frame → Store → List AV → Prop} {r : Dm R} {rest : List AIns} {op : AOp} {t : Nat}
def insK (E : Env) (rest : List AIns) (g : Frame) (L : List AV) (R : Frame → Store → List AV → Prop) (r : Dm R) : AV → Store → Prop := fun v S' => wpI E rest g S' (L ++ [v]) R r
def insKt (E : Env) (rest : List AIns) (g : Frame) (t : Nat) (L : List AV) (R : Frame → Store → List AV → Prop) (r : Dm R) : AV → Store → Prop := fun v S' => wpI E rest (upd g t v) S' (L ++ [v]) R r
theorem insK_eq (v : AV) : insK E rest g L R r v S = wpI E rest g S (L ++ [v]) R r := propext ⟨id, id⟩
theorem insKt_eq (v : AV) : insKt E rest g t L R r v S = wpI E rest (upd g t v) S (L ++ [v]) R r := propext ⟨id, id⟩
theorem i_nil : wpI E [] g S L R r = R g S L := propext ⟨id, id⟩
theorem i_nn : wpI E (⟨none, op, none⟩ :: rest) g S L R r = wpO E op g S L (insK E rest g L R r) .mk := propext ⟨id, id⟩
theorem i_sn : wpI E (⟨some t, op, none⟩ :: rest) g S L R r = wpO E op g S L (insKt E rest g t L R r) .mk := propext ⟨id, id⟩
theorem i_ng (j : Nat) (b : Bool) : wpI E (⟨none, op, some (j, b)⟩ :: rest) g S L R r = byV (L.getD j .undef) b (wpO E op g S L (insK E rest g L R r) .mk) (wpI E rest g S (L ++ [.undef]) R r) .mk .mk := propext ⟨id, id⟩
theorem i_sg (j : Nat) (b : Bool) : wpI E (⟨some t, op, some (j, b)⟩ :: rest) g S L R r = byV (L.getD j .undef) b (wpO E op g S L (insKt E rest g t L R r) .mk) (wpI E rest (upd g t .undef) S (L ++ [.undef]) R r) .mk .mk := propext ⟨id, id⟩
end
section
variable {E : Env} {g : Frame} {S : Store} {L : List AV} {K : AV → Store → Prop} {d : Dm K}
theorem o_mv (x : AX) : wpO E (.mv x) g S L K d = K (ev g L x) S := propext ⟨id, id⟩
theorem o_call (f : Nat) (args : List AX) : wpO E (.call f args) g S L K d = SpD E f (evs (ev g L) args) S K d := propext ⟨id, id⟩
theorem o_callv (x : AX) (args : List AX) : wpO E (.callv x args) g S L K d = callV E (ev g L x) (evs (ev g L) args) S K d := propext ⟨id, id⟩
theorem o_bin (op : BinOp) (x y : AX) : wpO E (.bin op x y) g S L K d = thnV (abin op (ev g L x) (ev g L y)) K S d := thn_map _
theorem o_una (op : UnOp) (x : AX) : wpO E (.una op x) g S L K d = thnV (auna op (ev g L x)) K S d := thn_map _
theorem o_new (cs : List AV) : wpO E (.new cs) g S L K d = K (.ptr S.length 0) (S ++ [.cells cs]) := propext ⟨id, id⟩
theorem o_load (b : Bool) (n : Nat) (x : AX) : wpO E (.load b n x) g S L K d = thnV (loadA S b n (ev g L x)) K S d := thn_map _
theorem o_fn (f : Nat) (cap : List AX) : wpO E (.mkfn f cap) g S L K d = K (.fn f (evs (ev g L) cap)) S := propext ⟨id, id⟩
theorem o_map : wpO E .mkmap g S L K d = K (.map S.length) (S ++ [.map []]) := propext ⟨id, id⟩
/-- the others, by what they are -/
theorem o_gen (op : AOp) (h1 : ∀ f a, op ≠ .call f a) (h2 : ∀ x a, op ≠ .callv x a) : wpO E op g S L K d = thn (aop (fun _ _ _ => none) S (ev g L) op) K d := by
  cases op <;> first | exact absurd rfl (h1 _ _) | exact absurd rfl (h2 _ _) | exact propext ⟨id, id⟩
def pickA (c a b : AV) : Option AV := match c with | .bool t => some (if t then a else b) | _ => none
theorem pick_true (a b : AV) : pickA (.bool true) a b = some a := by simp [pickA]
theorem pick_false (a b : AV) : pickA (.bool false) a b = some b := by simp [pickA]
theorem o_pick (c a b : AX) : wpO E (.pick c a b) g S L K d = thnV (pickA (ev g L c) (ev g L a) (ev g L b)) K S d := by
  rw [o_gen _ (by simp) (by simp)]
  simp only [aop, pickA]
  generalize ev g L c = v
  cases v <;> exact propext ⟨id, id⟩
end

section
variable {A B : Prop} {p : Dm A} {q : Dm B} {K : AV → Store → Prop} {d : Dm K} {E : Env} {S : Store} {g : Frame} {L : List AV}
theorem cnd_true' : cnd true A B p q = A := propext ⟨id, id⟩
theorem cnd_false' : cnd false A B p q = B := by rw [cnd_false]
theorem byV_bool' (t b : Bool) : byV (.bool t) b A B p q = cnd (t == b) A B p q := propext ⟨id, id⟩
theorem byV_tup' (vs : List AV) (b : Bool) : byV (.tup vs) b A B p q = B := propext ⟨id, id⟩
theorem ifV_bool' (t : Bool) : ifV (.bool t) A B p q = cnd t A B p q := propext ⟨id, id⟩
theorem callV_fn' (f : Nat) (cap args : List AV) : callV E (.fn f cap) args S K d = SpD E f (args ++ cap) S K d := propext ⟨id, id⟩
theorem thnR_some' (vs : List AV) (K : List AV → Prop) (d : Dm K) : thnR (some vs) K d = K vs := propext ⟨id, id⟩
def finK (R : AV → Store → Prop) (S : Store) : List AV → Prop := fun vs => R (oneOrTup vs) S
theorem fin_ret (res : List ARes) (R : AV → Store → Prop) : fin res R .ret g S = thnR (resA g S res) (finK R S) .mk := propext ⟨id, id⟩
theorem fin_norm (res : List ARes) (R : AV → Store → Prop) : fin res R .normal g S = thnR (resA g S res) (finK R S) .mk := propext ⟨id, id⟩
theorem one_one (R : AV → Store → Prop) (v : AV) : finK R S [v] = R v S := propext ⟨id, id⟩
theorem one_two (R : AV → Store → Prop) (v w : AV) (vs : List AV) : finK R S (v :: w :: vs) = R (.tup (v :: w :: vs)) S := propext ⟨id, id⟩
theorem one_none (R : AV → Store → Prop) : finK R S [] = R (.tup []) S := propext ⟨id, id⟩
theorem res_nil : resA g S [] = some [] := rfl
theorem res_tmp (t : Nat) (rest : List ARes) : resA g S (.tmp t :: rest) = (resA g S rest).map (g t :: ·) := rfl
theorem evs_nil (e : AX → AV) : evs e [] = [] := rfl
theorem evs_cons (e : AX → AV) (x : AX) (xs : List AX) : evs e (x :: xs) = e x :: evs e xs := rfl
theorem una_not (b : Bool) : auna .not (.bool b) = some (.bool (!b)) := rfl
theorem una_neg (k : IntKind) (n : Int) : auna .neg (.int k n) = some (.int k (k.wrap (0 - n))) := rfl
/-- lengths -/
def lenA (b : Bool) (x : AV) : Option AV := match b, x with
  | true, .str s => some (.int .i64 s.length)
  | false, .nilS => some (.int .i64 0)
  | false, .emp => some (.int .i64 0)
  | false, .nsl => some (.int .i64 0)
  | false, .csl _ n => some (.int .i64 n)
  | false, .sl _ _ n _ => some (.int .i64 n)
  | false, .slc _ _ n _ _ => some (.int .i64 n)
  | _, _ => none
theorem lenA_str (s : List UInt8) : lenA true (.str s) = some (.int .i64 s.length) := rfl
theorem lenA_nilS : lenA false .nilS = some (.int .i64 0) := rfl
theorem lenA_csl (cs : List AV) (n : Nat) : lenA false (.csl cs n) = some (.int .i64 n) := rfl
theorem lenA_slc (i o n c z : Nat) : lenA false (.slc i o n c z) = some (.int .i64 n) := rfl
theorem lenA_sl (i o n z : Nat) : lenA false (.sl i o n z) = some (.int .i64 n) := rfl
theorem o_len (b : Bool) (x : AX) : wpO E (.len b x) g S L K d = thnV (lenA b (ev g L x)) K S d := by
  rw [o_gen _ (by simp) (by simp)]
  simp only [aop, lenA]
  generalize ev g L x = v
  cases b <;> cases v <;> exact propext ⟨id, id⟩
def sidxA (x i : AV) : Option AV := match x, i with
  | .str s, .int _ j => if 0 ≤ j then (s[j.toNat]?).map fun c => .int .u8 c.toNat else none
  | _, _ => none
theorem sidx_at {s : List UInt8} {i : Nat} {c : UInt8} (k : IntKind) (h : s[i]? = some c) : sidxA (.str s) (.int k i) = some (.int .u8 c.toNat) := by simp [sidxA, h]
theorem o_sidx (x i : AX) : wpO E (.sidx x i) g S L K d = thnV (sidxA (ev g L x) (ev g L i)) K S d := by
  rw [o_gen _ (by simp) (by simp)]
  simp only [aop, sidxA]
  generalize ev g L x = v
  generalize ev g L i = w
  cases v <;> cases w <;> try exact propext ⟨id, id⟩
  rename_i s k j
  simp only
  split
  · cases s[j.toNat]? <;> exact propext ⟨id, id⟩
  · exact propext ⟨id, id⟩
end


/-! ### the other operations, by what they are given -/
def boxA (S : Store) (n : Nat) (v : AV) : Option (AV × Store) := if v.cells.length = n then some (.ptr S.length 0, S ++ [.cells v.cells]) else none
def storeA (S : Store) (n : Nat) (x y : AV) : Option (AV × Store) := match x with
  | .ptr id off => match S[id]? with
    | some (.cells cs) => if y.cells.length = n ∧ off + n ≤ cs.length then some (.undef, S.set id (.cells (cs.take off ++ y.cells ++ cs.drop (off + n)))) else none
    | _ => none
  | _ => none
def nilckA : AV → Option AV
  | .ptr id off => some (.ptr id off)
  | .cptr cs => some (.cptr cs)
  | .fn f cap => some (.fn f cap)
  | _ => none
def eqbA (neg : Bool) : AV → AV → Option AV
  | .bool a, .bool b => some (.bool (if neg then a != b else a == b))
  | _, _ => none
def eqnA (neg : Bool) (cls : Nat) (x y : AV) : Option AV := match isNil cls x, isNil cls y with
  | some a, some true => some (.bool (if neg then !a else a))
  | _, _ => none
def eqsA (neg : Bool) (ks : List Nat) : AV → AV → Option AV
  | .agg a, .agg b => if a.length = ks.length ∧ b.length = ks.length then (aeqs ks a b).map fun t => .bool (if neg then !t else t) else none
  | _, _ => none
def i2iA (k : IntKind) : AV → Option AV
  | .int _ n => some (.int k (k.wrap n))
  | _ => none
def sameA : AV → Option AV
  | .str s => some (.str s)
  | _ => none
def s2bA (S : Store) : AV → Option (AV × Store)
  | .str s => if s.length ≤ 140737488355328 then some (.sl S.length 0 s.length 1, S ++ [.cells (s.map fun c => .int .u8 c.toNat)]) else none
  | _ => none
def s2bfA : AV → Option AV
  | .str s => if s.length ≤ 140737488355328 then some (.csl (s.map fun c => .int .u8 c.toNat) s.length) else none
  | _ => none
def markA : AV → Option AV
  | .csln cs n => if cs.length = 0 then none else some (.csl cs n)
  | _ => none
def b2sA (S : Store) (x : AV) : Option AV := (match x with | .str _ => none | y => elems S 1 y).bind fun (p : List AV × Nat) => (asBytes p.1).map .str
def mkslA (S : Store) (sz bytes : Nat) (zero : List AV) : AV → AV → Option (AV × Store)
  | .int .i64 n, .int .i64 m => if n = m ∧ 0 ≤ n ∧ n * bytes ≤ 140737488355328 ∧ zero.length = sz then
        some (.sl S.length 0 n.toNat sz, S ++ [.cells (List.replicate n.toNat zero).flatten]) else none
  | _, _ => none
def faddrA (off : Nat) : AV → Option AV
  | .ptr id o => some (.ptr id (o + off))
  | .cptr cs => some (.cptr (cs.drop off))
  | _ => none
def fieldA (agg : Bool) (off n : Nat) : AV → Option AV
  | .agg cs => if off + n ≤ cs.length then if agg then some (.agg ((cs.drop off).take n)) else cs[off]? else none
  | _ => none
def iaddrA (sz : Nat) : AV → AV → Option AV
  | .csl cs n, .int _ j => if 0 ≤ j ∧ j < n then some (.cptr (cs.drop (j.toNat * sz))) else none
  | .sl id off n sz', .int _ j => if 0 ≤ j ∧ j < n ∧ sz = sz' then some (.ptr id (off + j.toNat * sz)) else none
  | .slc id off n _ sz', .int _ j => if 0 ≤ j ∧ j < n ∧ sz = sz' then some (.ptr id (off + j.toNat * sz)) else none
  | _, _ => none
def aaddrA (len sz : Nat) : AV → AV → Option AV
  | .cptr cs, .int _ j => if 0 ≤ j ∧ j < len then some (.cptr (cs.drop (j.toNat * sz))) else none
  | .ptr id off, .int _ j => if 0 ≤ j ∧ j < len then some (.ptr id (off + j.toNat * sz)) else none
  | _, _ => none
def lookA (S : Store) (kk : List Nat) (zero : AV) (ok : Bool) (x i : AV) : Option AV := match x with
  | .nilM => if keyOk kk i then some (if ok then .tup [zero, .bool false] else zero) else none
  | .map id => match S[id]? with
    | some (.map es) => if keyOk kk i then (findA kk i es).map fun r => match r with
      | some v => if ok then .tup [v, .bool true] else v
      | none => if ok then .tup [zero, .bool false] else zero else none
    | _ => none
  | _ => none
def mapuA (S : Store) (kk : List Nat) (x i y : AV) : Option (AV × Store) := match x with
  | .map id => match S[id]? with
    | some (.map es) => if keyOk kk i then (putA kk i y es).map fun es' => (.undef, S.set id (.map es')) else none
    | _ => none
  | _ => none
def extA (i : Nat) : AV → Option AV
  | .tup vs => vs[i]?
  | _ => none
def mlenA (S : Store) : AV → Option AV
  | .nilM => some (.int .i64 0)
  | .map id => match S[id]? with
    | some (.map es) => some (.int .i64 es.length)
    | _ => none
  | _ => none
def appA (S : Store) (sz bytes : Nat) (x y : AV) : Option (AV × Store) := aop (fun _ _ _ => none) S (fun | .l 0 => x | _ => y) (.append sz bytes (.l 0) (.l 1))
def appzA (S : Store) (sz bytes : Nat) (z : List AV) (x y : AV) : Option (AV × Store) := aop (fun _ _ _ => none) S (fun | .l 0 => x | _ => y) (.appz sz bytes z (.l 0) (.l 1))
def clearA (S : Store) (sz : Nat) (zero : List AV) (x : AV) : Option (AV × Store) := aop (fun _ _ _ => none) S (fun _ => x) (.clear sz zero (.l 0))
def optI (d : Int) : Option AV → Option Int
  | none => some d
  | some (.int _ n) => some n
  | _ => none
def sliceA (sz : Nat) (x : AV) (lo hi mx : Option AV) : Option AV := match x with
    | .nilS => (optI 0 lo).bind fun l => (optI 0 hi).bind fun h => (optI 0 mx).bind fun m => if l = 0 ∧ h = 0 ∧ m = 0 ∧ (mx.isNone ∨ hi.isSome) then some .nilS else none
    | .emp => (optI 0 lo).bind fun l => (optI 0 hi).bind fun h => (optI 0 mx).bind fun m => if l = 0 ∧ h = 0 ∧ m = 0 ∧ (mx.isNone ∨ hi.isSome) then some .emp else none
    | .nsl => (optI 0 lo).bind fun l => (optI 0 hi).bind fun h => (optI 0 mx).bind fun m => if l = 0 ∧ h = 0 ∧ m = 0 ∧ (mx.isNone ∨ hi.isSome) then some (if mx.isSome then .emp else .csl [] 0) else none
    | .csl cs n => (optI 0 lo).bind fun l => (optI n hi).bind fun h => (optI n mx).bind fun m =>
        if 0 ≤ l ∧ l ≤ h ∧ h ≤ m ∧ m ≤ n ∧ (mx.isNone ∨ hi.isSome) then some (if mx.isSome ∧ m = l then .emp else .csl ((cs.drop (l.toNat * sz)).take ((h.toNat - l.toNat) * sz)) (h.toNat - l.toNat)) else none
    | .sl id off n sz' => (optI 0 lo).bind fun l => (optI n hi).bind fun h => (optI n mx).bind fun m =>
        if sz = sz' ∧ 0 ≤ l ∧ l ≤ h ∧ h ≤ m ∧ m ≤ n ∧ (mx.isNone ∨ hi.isSome) then
          some (if mx.isNone then .sl id (off + l.toNat * sz) (h.toNat - l.toNat) sz else .slc id (off + l.toNat * sz) (h.toNat - l.toNat) (m.toNat - l.toNat) sz) else none
    | .slc id off n c sz' => (optI 0 lo).bind fun l => (optI n hi).bind fun h => (optI c mx).bind fun m =>
        if sz = sz' ∧ 0 ≤ l ∧ l ≤ h ∧ h ≤ m ∧ m ≤ c ∧ (mx.isNone ∨ hi.isSome) then
          some (.slc id (off + l.toNat * sz) (h.toNat - l.toNat) (m.toNat - l.toNat) sz) else none
    | _ => none
def slicexA (S : Store) (sz : Nat) (x lo hi : AV) : Option AV := match x, lo, hi with
    | .sl id off _ sz', .int _ l, .int _ h => match S[id]? with
      | some (.cells cs) => if sz = sz' ∧ 0 ≤ l ∧ l ≤ h ∧ off + h.toNat * sz ≤ cs.length then some (.sl id (off + l.toNat * sz) (h.toNat - l.toNat) sz) else none
      | _ => none
    | _, _, _ => none
def ssliceA (x : AV) (lo hi : Option AV) : Option AV := match x with
    | .str s => (optI 0 lo).bind fun l => (optI s.length hi).bind fun h =>
        if 0 ≤ l ∧ l ≤ h ∧ h ≤ s.length then some (.str ((s.drop l.toNat).take (h.toNat - l.toNat))) else none
    | _ => none

theorem optI_ev (e : AX → AV) (d : Int) (x : Option AX) : optInt e d x = optI d (x.map e) := by
  cases x with
  | none => rfl
  | some x => simp only [optInt, Option.map_some, optI]; cases e x <;> rfl

section
variable {E : Env} {g : Frame} {S : Store} {L : List AV} {K : AV → Store → Prop} {d : Dm K}
theorem thnV_of {r : Option AV} {q : Option (AV × Store)} (h : q = r.map fun v => (v, S)) : thn q K d = thnV r K S d := by rw [h, thn_map]
theorem o_box (n : Nat) (x : AX) : wpO E (.box n x) g S L K d = thn (boxA S n (ev g L x)) K d := propext ⟨id, id⟩
theorem o_build (z : List AV) (ps : List (Nat × Nat × AX)) : wpO E (.build z ps) g S L K d = thnV ((fillA (ev g L) z ps).map .agg) K S d := by
  rw [o_gen _ (by simp) (by simp)]; exact thnV_of (by simp only [aop, Option.map_map]; rfl)
def litA (S : Store) (sz len : Nat) (z : List AV) (cs : Option (List AV)) : Option (AV × Store) := if len * sz = z.length then cs.map fun cs => (.sl S.length 0 len sz, S ++ [.cells cs]) else none
def litfA (sz len : Nat) (z : List AV) (cs : Option (List AV)) : Option AV := if len * sz = z.length then cs.map fun cs => .csl cs len else none
def litnA (sz len : Nat) (z : List AV) (cs : Option (List AV)) : Option AV := if len * sz = z.length then cs.map fun cs => .csln cs len else none
theorem o_lit (sz len : Nat) (z : List AV) (ps : List (Nat × Nat × AX)) : wpO E (.lit sz len z ps) g S L K d = thn (litA S sz len z (fillA (ev g L) z ps)) K d := propext ⟨id, id⟩
theorem o_litf (sz len : Nat) (z : List AV) (ps : List (Nat × Nat × AX)) : wpO E (.litf sz len z ps) g S L K d = thnV (litfA sz len z (fillA (ev g L) z ps)) K S d := by
  rw [o_gen _ (by simp) (by simp)]; refine thnV_of ?_
  simp only [aop, litfA]; split <;> simp [Function.comp_def]
theorem o_litn (sz len : Nat) (z : List AV) (ps : List (Nat × Nat × AX)) : wpO E (.litn sz len z ps) g S L K d = thnV (litnA sz len z (fillA (ev g L) z ps)) K S d := by
  rw [o_gen _ (by simp) (by simp)]; refine thnV_of ?_
  simp only [aop, litnA]; split <;> simp [Function.comp_def]
theorem o_store (n : Nat) (x y : AX) : wpO E (.store n x y) g S L K d = thn (storeA S n (ev g L x) (ev g L y)) K d := propext ⟨id, id⟩
theorem o_nilck (x : AX) : wpO E (.nilck x) g S L K d = thnV (nilckA (ev g L x)) K S d := by
  rw [o_gen _ (by simp) (by simp)]; refine thnV_of ?_
  simp only [aop, nilckA]; cases ev g L x <;> rfl
theorem o_eqb (neg : Bool) (x y : AX) : wpO E (.eqb neg x y) g S L K d = thnV (eqbA neg (ev g L x) (ev g L y)) K S d := by
  rw [o_gen _ (by simp) (by simp)]; refine thnV_of ?_
  simp only [aop, eqbA]; cases ev g L x <;> cases ev g L y <;> rfl
theorem o_eqn (neg : Bool) (cls : Nat) (x y : AX) : wpO E (.eqn neg cls x y) g S L K d = thnV (eqnA neg cls (ev g L x) (ev g L y)) K S d := by
  rw [o_gen _ (by simp) (by simp)]; refine thnV_of ?_
  simp only [aop, eqnA]; split <;> simp_all
theorem o_eqs (neg : Bool) (ks : List Nat) (x y : AX) : wpO E (.eqs neg ks x y) g S L K d = thnV (eqsA neg ks (ev g L x) (ev g L y)) K S d := by
  rw [o_gen _ (by simp) (by simp)]; refine thnV_of ?_
  simp only [aop, eqsA]
  generalize ev g L x = a; generalize ev g L y = b
  cases a <;> try rfl
  cases b <;> try rfl
  simp only; split <;> simp [Function.comp_def]
theorem o_i2i (k : IntKind) (x : AX) : wpO E (.i2i k x) g S L K d = thnV (i2iA k (ev g L x)) K S d := by
  rw [o_gen _ (by simp) (by simp)]; refine thnV_of ?_
  simp only [aop, i2iA]; cases ev g L x <;> rfl
theorem o_same (x : AX) : wpO E (.same x) g S L K d = thnV (sameA (ev g L x)) K S d := by
  rw [o_gen _ (by simp) (by simp)]; refine thnV_of ?_
  simp only [aop, sameA]; cases ev g L x <;> rfl
theorem o_s2b (x : AX) : wpO E (.s2b x) g S L K d = thn (s2bA S (ev g L x)) K d := propext ⟨id, id⟩
theorem o_s2bf (x : AX) : wpO E (.s2bf x) g S L K d = thnV (s2bfA (ev g L x)) K S d := by
  rw [o_gen _ (by simp) (by simp)]; refine thnV_of ?_
  simp only [aop, s2bfA]; cases ev g L x <;> try rfl
  simp only; split <;> rfl
theorem o_mark (x : AX) : wpO E (.mark x) g S L K d = thnV (markA (ev g L x)) K S d := by
  rw [o_gen _ (by simp) (by simp)]; refine thnV_of ?_
  simp only [aop, markA]; cases ev g L x <;> try rfl
  simp only; split <;> rfl
theorem o_b2s (x : AX) : wpO E (.b2s x) g S L K d = thnV (b2sA S (ev g L x)) K S d := by
  rw [o_gen _ (by simp) (by simp)]; refine thnV_of ?_
  simp only [aop, b2sA]
  generalize ev g L x = a
  cases a <;> simp [Option.map_bind, Function.comp_def]
theorem o_mksl (sz bytes : Nat) (z : List AV) (x y : AX) : wpO E (.mksl sz bytes z x y) g S L K d = thn (mkslA S sz bytes z (ev g L x) (ev g L y)) K d := propext ⟨id, id⟩
theorem o_faddr (off : Nat) (x : AX) : wpO E (.faddr off x) g S L K d = thnV (faddrA off (ev g L x)) K S d := by
  rw [o_gen _ (by simp) (by simp)]; refine thnV_of ?_
  simp only [aop, faddrA]; cases ev g L x <;> rfl
theorem o_field (agg : Bool) (off n : Nat) (x : AX) : wpO E (.field agg off n x) g S L K d = thnV (fieldA agg off n (ev g L x)) K S d := by
  rw [o_gen _ (by simp) (by simp)]; refine thnV_of ?_
  simp only [aop, fieldA]
  generalize ev g L x = a
  cases a <;> try rfl
  simp only
  split
  · split <;> rfl
  · rfl
theorem o_iaddr (sz : Nat) (x i : AX) : wpO E (.iaddr sz x i) g S L K d = thnV (iaddrA sz (ev g L x) (ev g L i)) K S d := by
  rw [o_gen _ (by simp) (by simp)]; refine thnV_of ?_
  simp only [aop, iaddrA]
  generalize ev g L x = a; generalize ev g L i = b
  cases a <;> try rfl
  all_goals (cases b <;> try rfl)
  all_goals (simp only; split <;> rfl)
theorem o_aaddr (len sz : Nat) (x i : AX) : wpO E (.aaddr len sz x i) g S L K d = thnV (aaddrA len sz (ev g L x) (ev g L i)) K S d := by
  rw [o_gen _ (by simp) (by simp)]; refine thnV_of ?_
  simp only [aop, aaddrA]
  generalize ev g L x = a; generalize ev g L i = b
  cases a <;> try rfl
  all_goals (cases b <;> try rfl)
  all_goals (simp only; split <;> rfl)
theorem o_look (kk : List Nat) (z : AV) (ok : Bool) (x i : AX) : wpO E (.look kk z ok x i) g S L K d = thnV (lookA S kk z ok (ev g L x) (ev g L i)) K S d := by
  rw [o_gen _ (by simp) (by simp)]; refine thnV_of ?_
  simp only [aop, lookA]
  generalize ev g L x = a; generalize ev g L i = b
  cases a <;> try rfl
  · simp only; split <;> rfl
  · rename_i id
    simp only
    cases S[id]? with
    | none => rfl
    | some o =>
      cases o <;> try rfl
      simp only
      split
      · simp only [Option.map_map]; congr 1; funext r; cases r <;> rfl
      · rfl
theorem o_mapu (kk : List Nat) (x i y : AX) : wpO E (.mapu kk x i y) g S L K d = thn (mapuA S kk (ev g L x) (ev g L i) (ev g L y)) K d := propext ⟨id, id⟩
theorem o_ext (x : AX) (i : Nat) : wpO E (.ext x i) g S L K d = thnV (extA i (ev g L x)) K S d := by
  rw [o_gen _ (by simp) (by simp)]; refine thnV_of ?_
  simp only [aop, extA]; cases ev g L x <;> rfl
theorem o_mlen (x : AX) : wpO E (.mlen x) g S L K d = thnV (mlenA S (ev g L x)) K S d := by
  rw [o_gen _ (by simp) (by simp)]; refine thnV_of ?_
  simp only [aop, mlenA]
  generalize ev g L x = a
  cases a <;> try rfl
  rename_i id
  simp only
  cases S[id]? with
  | none => rfl
  | some o => cases o <;> rfl
theorem o_append (sz bytes : Nat) (x y : AX) : wpO E (.append sz bytes x y) g S L K d = thn (appA S sz bytes (ev g L x) (ev g L y)) K d := propext ⟨id, id⟩
theorem o_appz (sz bytes : Nat) (z : List AV) (x y : AX) : wpO E (.appz sz bytes z x y) g S L K d = thn (appzA S sz bytes z (ev g L x) (ev g L y)) K d := propext ⟨id, id⟩
theorem o_clear (sz : Nat) (z : List AV) (x : AX) : wpO E (.clear sz z x) g S L K d = thn (clearA S sz z (ev g L x)) K d := propext ⟨id, id⟩
def mxsA (gt : Bool) : List AV → Option AV
  | v :: vs => mxA gt v vs
  | [] => none
theorem o_mx (gt : Bool) (xs : List AX) : wpO E (.mx gt xs) g S L K d = thnV (mxsA gt (evs (ev g L) xs)) K S d := by
  rw [o_gen _ (by simp) (by simp)]; refine thnV_of ?_
  simp only [aop, mxsA]
  cases evs (ev g L) xs <;> rfl
theorem o_slice (sz : Nat) (x : AX) (lo hi mx : Option AX) : wpO E (.slice sz x lo hi mx) g S L K d = thnV (sliceA sz (ev g L x) (lo.map (ev g L)) (hi.map (ev g L)) (mx.map (ev g L))) K S d := by
  rw [o_gen _ (by simp) (by simp)]; refine thnV_of ?_
  simp only [aop, sliceA, optI_ev, Option.isNone_map, Option.isSome_map]
  generalize ev g L x = a
  cases a <;> try rfl
  all_goals (simp only [Option.map_bind]; congr 1; funext l; simp only [Function.comp, Option.map_bind]; congr 1; funext h; simp only [Function.comp, Option.map_bind]; congr 1; funext m; simp only [Function.comp]; split <;> rfl)
theorem o_slicex (sz : Nat) (x lo hi : AX) : wpO E (.slicex sz x lo hi) g S L K d = thnV (slicexA S sz (ev g L x) (ev g L lo) (ev g L hi)) K S d := by
  rw [o_gen _ (by simp) (by simp)]; refine thnV_of ?_
  simp only [aop, slicexA]
  generalize ev g L x = a; generalize ev g L lo = b; generalize ev g L hi = c
  cases a <;> try rfl
  cases b <;> try rfl
  cases c <;> try rfl
  rename_i id _ _ _ _ _ _ _
  simp only
  cases S[id]? with
  | none => rfl
  | some o =>
    cases o <;> try rfl
    simp only; split <;> rfl
theorem o_sslice (x : AX) (lo hi : Option AX) : wpO E (.sslice x lo hi) g S L K d = thnV (ssliceA (ev g L x) (lo.map (ev g L)) (hi.map (ev g L))) K S d := by
  rw [o_gen _ (by simp) (by simp)]; refine thnV_of ?_
  simp only [aop, ssliceA, optI_ev]
  generalize ev g L x = a
  cases a <;> try rfl
  all_goals (simp only [Option.map_bind]; congr 1; funext l; simp only [Function.comp, Option.map_bind]; congr 1; funext h; simp only [Function.comp]; split <;> rfl)
end

/-! ### what they give -/
theorem c_str (s : List UInt8) : (AV.str s).cells = [.str s] := rfl
theorem c_int (k : IntKind) (n : Int) : (AV.int k n).cells = [.int k n] := rfl
theorem c_bool (b : Bool) : (AV.bool b).cells = [.bool b] := rfl
theorem c_agg (cs : List AV) : (AV.agg cs).cells = cs := rfl
theorem c_nilS : AV.nilS.cells = [.nilS] := rfl
theorem c_nilP : AV.nilP.cells = [.nilP] := rfl
theorem c_csl (cs : List AV) (n : Nat) : (AV.csl cs n).cells = [.csl cs n] := rfl
theorem c_sl (i o n z : Nat) : (AV.sl i o n z).cells = [.sl i o n z] := rfl
theorem c_slc (i o n c z : Nat) : (AV.slc i o n c z).cells = [.slc i o n c z] := rfl
theorem c_ptr (i o : Nat) : (AV.ptr i o).cells = [.ptr i o] := rfl
theorem c_map (i : Nat) : (AV.map i).cells = [.map i] := rfl
theorem c_nilM : AV.nilM.cells = [.nilM] := rfl
theorem c_fn (f : Nat) (l : List AV) : (AV.fn f l).cells = [.fn f l] := rfl
theorem boxA_eq (S : Store) (n : Nat) (v : AV) : boxA S n v = if v.cells.length = n then some (.ptr S.length 0, S ++ [.cells v.cells]) else none := rfl
theorem litA_eq (S : Store) (sz len : Nat) (z cs : List AV) (h : len * sz = z.length) : litA S sz len z (some cs) = some (.sl S.length 0 len sz, S ++ [.cells cs]) := by simp [litA, h]
theorem litfA_eq (sz len : Nat) (z cs : List AV) (h : len * sz = z.length) : litfA sz len z (some cs) = some (.csl cs len) := by simp [litfA, h]
theorem litnA_eq (sz len : Nat) (z cs : List AV) (h : len * sz = z.length) : litnA sz len z (some cs) = some (.csln cs len) := by simp [litnA, h]
theorem markA_eq (a : AV) (cs : List AV) (n : Nat) : markA (.csln (a :: cs) n) = some (.csl (a :: cs) n) := by simp [markA]
theorem fillA_nil (e : AX → AV) (cs : List AV) : fillA e cs [] = some cs := rfl
theorem fillA_cons (e : AX → AV) (cs : List AV) (off n : Nat) (x : AX) (rest : List (Nat × Nat × AX)) :
    fillA e cs ((off, n, x) :: rest) = if (e x).cells.length = n ∧ off + n ≤ cs.length then fillA e (cs.take off ++ (e x).cells ++ cs.drop (off + n)) rest else none := rfl
theorem nilck_ptr (i o : Nat) : nilckA (.ptr i o) = some (.ptr i o) := rfl
theorem nilck_cptr (cs : List AV) : nilckA (.cptr cs) = some (.cptr cs) := rfl
theorem nilck_fn (f : Nat) (cs : List AV) : nilckA (.fn f cs) = some (.fn f cs) := rfl
theorem eqb_eq (a b : Bool) : eqbA false (.bool a) (.bool b) = some (.bool (a == b)) := by simp [eqbA]
theorem eqb_ne (a b : Bool) : eqbA true (.bool a) (.bool b) = some (.bool (a != b)) := by simp [eqbA]
theorem eqnA_eq (neg : Bool) (cls : Nat) (x y : AV) (a : Bool) (h1 : isNil cls x = some a) (h2 : isNil cls y = some true) : eqnA neg cls x y = some (.bool (if neg then !a else a)) := by simp [eqnA, h1, h2]
theorem i2i_int (k k' : IntKind) (n : Int) : i2iA k (.int k' n) = some (.int k (k.wrap n)) := rfl
theorem same_str (s : List UInt8) : sameA (.str s) = some (.str s) := rfl
theorem s2bf_str (s : List UInt8) (h : s.length ≤ 140737488355328) : s2bfA (.str s) = some (.csl (s.map fun c => .int .u8 c.toNat) s.length) := by simp [s2bfA, h]
theorem faddr_ptr (off i o : Nat) : faddrA off (.ptr i o) = some (.ptr i (o + off)) := rfl
theorem faddr_cptr (off : Nat) (cs : List AV) : faddrA off (.cptr cs) = some (.cptr (cs.drop off)) := rfl
theorem fieldA_agg (off n : Nat) (cs : List AV) (h : off + n ≤ cs.length) : fieldA true off n (.agg cs) = some (.agg ((cs.drop off).take n)) := by simp [fieldA, h]
theorem fieldA_one (off n : Nat) (cs : List AV) (h : off + n ≤ cs.length) : fieldA false off n (.agg cs) = cs[off]? := by simp [fieldA, h]
theorem ext_tup (i : Nat) (vs : List AV) : extA i (.tup vs) = vs[i]? := rfl
theorem ia_csl {sz n : Nat} {cs : List AV} {i : Nat} (k : IntKind) (h : i < n) : iaddrA sz (.csl cs n) (.int k i) = some (.cptr (cs.drop (i * sz))) := by simp [iaddrA, h]
theorem ia_sl {sz n id off : Nat} {i : Nat} (k : IntKind) (h : i < n) : iaddrA sz (.sl id off n sz) (.int k i) = some (.ptr id (off + i * sz)) := by simp [iaddrA, h]
theorem ia_slc {sz n c id off : Nat} {i : Nat} (k : IntKind) (h : i < n) : iaddrA sz (.slc id off n c sz) (.int k i) = some (.ptr id (off + i * sz)) := by simp [iaddrA, h]
theorem ld_c1 (n : Nat) (cs : List AV) (S : Store) : loadA S false n (.cptr cs) = cs[0]? := by simp [loadA]
theorem ld_cn (n : Nat) (cs : List AV) (S : Store) (h : n ≤ cs.length) : loadA S true n (.cptr cs) = some (.agg (cs.take n)) := by simp [loadA, h]
theorem ld_p1 {n id off : Nat} {cs : List AV} {S : Store} (h : S[id]? = some (.cells cs)) : loadA S false n (.ptr id off) = cs[off]? := by simp [loadA, h]
theorem ld_pn {n id off : Nat} {cs : List AV} {S : Store} (h : S[id]? = some (.cells cs)) (hn : off + n ≤ cs.length) : loadA S true n (.ptr id off) = some (.agg ((cs.drop off).take n)) := by simp [loadA, h, hn]
theorem st_p {n id off : Nat} {cs : List AV} {S : Store} {y : AV} (h : S[id]? = some (.cells cs)) (hy : y.cells.length = n) (hn : off + n ≤ cs.length) :
    storeA S n (.ptr id off) y = some (.undef, S.set id (.cells (cs.take off ++ y.cells ++ cs.drop (off + n)))) := by simp [storeA, h, hy, hn]
/-! a store with new objects behind -/
def ldO (agg : Bool) (n off : Nat) : AObj → Option AV
  | .cells cs => if agg then if off + n ≤ cs.length then some (.agg ((cs.drop off).take n)) else none else cs[off]?
  | _ => none
theorem ld_new {S : Store} {agg : Bool} {n off k : Nat} {l : List AObj} {o : AObj} (h : l[k]? = some o) : loadA (S ++ l) agg n (.ptr (S.length + k) off) = ldO agg n off o := by
  have : (S ++ l)[S.length + k]? = some o := by rw [List.getElem?_append_right (by omega)]; simpa using h
  simp only [loadA, this]
  cases o <;> rfl
theorem get_new (S : Store) (l : List AObj) (k : Nat) : (S ++ l)[S.length + k]? = l[k]? := by rw [List.getElem?_append_right (by omega)]; simp
theorem get_new0 (S : Store) (l : List AObj) : (S ++ l)[S.length]? = l[0]? := by rw [List.getElem?_append_right (by omega)]; simp
theorem set_new (S : Store) (l : List AObj) (k : Nat) (o : AObj) : (S ++ l).set (S.length + k) o = S ++ l.set k o := by rw [List.set_append_right _ _ (by omega)]; simp
theorem set_new0 (S : Store) (l : List AObj) (o : AObj) : (S ++ l).set S.length o = S ++ l.set 0 o := by rw [List.set_append_right _ _ (by omega)]; simp
theorem get_old {S : Store} {id : Nat} {o : AObj} (h : S[id]? = some o) (l : List AObj) : (S ++ l)[id]? = some o := by
  rw [List.getElem?_append_left (List.getElem?_eq_some_iff.1 h).1]; exact h
theorem set_old {S : Store} {id : Nat} {o : AObj} (h : S[id]? = some o) (l : List AObj) (x : AObj) : (S ++ l).set id x = S.set id x ++ l := by
  rw [List.set_append_left _ _ (List.getElem?_eq_some_iff.1 h).1]
theorem loadA_eq1 (S : Store) (n id off : Nat) : loadA S false n (.ptr id off) = (S[id]?).bind (ldO false n off) := by
  simp only [loadA]; cases S[id]? with
  | none => rfl
  | some o => cases o <;> rfl
theorem loadA_eqn (S : Store) (n id off : Nat) : loadA S true n (.ptr id off) = (S[id]?).bind (ldO true n off) := by
  simp only [loadA]; cases S[id]? with
  | none => rfl
  | some o => cases o <;> rfl
theorem ldO_1 (n off : Nat) (cs : List AV) : ldO false n off (.cells cs) = cs[off]? := rfl
theorem ldO_n (n off : Nat) (cs : List AV) (h : off + n ≤ cs.length) : ldO true n off (.cells cs) = some (.agg ((cs.drop off).take n)) := by simp [ldO, h]
def stO (S : Store) (id n off : Nat) (v : AV) : AObj → Option (AV × Store)
  | .cells cs => if v.cells.length = n ∧ off + n ≤ cs.length then some (.undef, S.set id (.cells (cs.take off ++ v.cells ++ cs.drop (off + n)))) else none
  | _ => none
theorem storeA_eq (S : Store) (n id off : Nat) (v : AV) : storeA S n (.ptr id off) v = (S[id]?).bind (stO S id n off v) := by
  simp only [storeA]; cases S[id]? with
  | none => rfl
  | some o => cases o <;> rfl
theorem stO_c (S : Store) (id n off : Nat) (v : AV) (cs : List AV) (h1 : v.cells.length = n) (h2 : off + n ≤ cs.length) : stO S id n off v (.cells cs) = some (.undef, S.set id (.cells (cs.take off ++ v.cells ++ cs.drop (off + n)))) := if_pos ⟨h1, h2⟩
theorem mx_int (gt : Bool) (k k' : IntKind) (x y : Int) (rest : List AV) : mxA gt (.int k x) (.int k' y :: rest) = mxA gt (.int k (if gt then (if y > x then y else x) else (if y < x then y else x))) rest := rfl
theorem mx_nil (gt : Bool) (v : AV) : mxA gt v [] = some v := rfl
theorem mxs_cons (gt : Bool) (v : AV) (vs : List AV) : mxsA gt (v :: vs) = mxA gt v vs := rfl
theorem aeqs_nil : aeqs [] [] [] = some true := rfl
theorem aeqs_s (ks : List Nat) (a b : List UInt8) (xas bs : List AV) {y : Bool} (h : aeqs ks xas bs = some y) : aeqs (1 :: ks) (.str a :: xas) (.str b :: bs) = some (decide (a = b) && y) := by
  simp only [aeqs, aeq1, Option.bind_some]; cases decide (a = b) <;> simp [h]
theorem aeqs_i (ks : List Nat) (k : IntKind) (a b : Int) (xas bs : List AV) {y : Bool} (h : aeqs ks xas bs = some y) : aeqs (0 :: ks) (.int k a :: xas) (.int k b :: bs) = some (decide (a = b) && y) := by
  simp only [aeqs, aeq1, if_true, Option.bind_some]; cases decide (a = b) <;> simp [h]
theorem aeqs_b (ks : List Nat) (a b : Bool) (xas bs : List AV) {y : Bool} (h : aeqs ks xas bs = some y) : aeqs (2 :: ks) (.bool a :: xas) (.bool b :: bs) = some ((a == b) && y) := by
  simp only [aeqs, aeq1, Option.bind_some]; cases (a == b) <;> simp [h]
theorem eqsA_e (ks : List Nat) (a b : List AV) (h1 : a.length = ks.length) (h2 : b.length = ks.length) {t : Bool} (h : aeqs ks a b = some t) : eqsA false ks (.agg a) (.agg b) = some (.bool t) := by simp [eqsA, h1, h2, h]
theorem eqsA_n (ks : List Nat) (a b : List AV) (h1 : a.length = ks.length) (h2 : b.length = ks.length) {t : Bool} (h : aeqs ks a b = some t) : eqsA true ks (.agg a) (.agg b) = some (.bool !t) := by simp [eqsA, h1, h2, h]

/-- the table of functions -/
def tabF : List (Nat × AFunc) → Nat → Option AFunc
  | [], _ => none
  | (n, f) :: l, m => if n = m then some f else tabF l m

end Go.Proofs.YtaajlbbooneiiaaDoor.Avm
namespace Go.Proofs.YtaajlbbooneiiaaDoor.Avm

def constS : Value → Option AV
  | .int k n => some (.int k n)
  | .bool b => some (.bool b)
  | .string s => some (.str s.data.toList)
  | .pointer none => some .nilP
  | .slice none 0 0 => some .nilS
  | .map none => some .nilM
  | .chan none => some .nilC
  | .nilFunc => some .nilF
  | .nilIface => some .nilI
  | _ => none

def constSs : List Value → Option (List AV)
  | [] => some []
  | v :: vs => (constS v).bind fun a => (constSs vs).map (a :: ·)

def constAV : Value → Option AV
  | .agg cs => (constSs cs.toList).map .agg
  | v => constS v

def zeroCells (P : Program) (t : TypeId) : Option (List AV) := (P.info? t).bind fun i => i.zero.bind fun z => constSs z.cells.toList
def zeroAV (P : Program) (t : TypeId) : Option AV := (P.info? t).bind fun i => i.zero.bind constAV
def szOf (P : Program) (t : TypeId) : Option Nat := (P.info? t).bind fun i => if 0 < i.size then some i.size else none
def isAggB (P : Program) (t : TypeId) : Option Bool :=
  match P.underlying t with
  | some (.struct _) | some (.array _ _) => some true
  | some _ => some false
  | none => none

/-- a struct whose fields are scalars, one cell each, compared one by one: their kinds -/
def scalarFields (P : Program) : Nat → List Field → Option (List Nat)
  | _, [] => some []
  | i, f :: fs => if f.offset = i ∧ f.name ≠ "_" then
      (match P.underlying f.type with | some (.int _) => some 0 | some .string => some 1 | some .bool => some 2 | _ => none).bind fun k => (scalarFields P (i + 1) fs).map (k :: ·) else none
def scalarStruct (P : Program) (t : TypeId) : Option (List Nat) :=
  match P.underlying t with
  | some (.struct fs) => if P.stoodInHeld t = false ∧ P.eqGuardType P.depth t = false then scalarFields P 0 fs.toList else none
  | _ => none

def nilClass (P : Program) (t : TypeId) : Option Nat :=
  match P.underlying t with
  | some (.pointer _) => some 0
  | some (.slice _) => some 1
  | some (.map _ _) => some 2
  | some (.chan _ _) => some 3
  | some (.func _ _ _) => some 4
  | _ => none

def keyKind (P : Program) (t : TypeId) : Option (List Nat) :=
  match P.underlying t with
  | some (.int _) => some [0]
  | some .string => some [1]
  | _ => none

def places (P : Program) (fs : List Field) : Option (List (Nat × Nat)) :=
  match fs with
  | [] => some []
  | f :: fs => (P.info? f.type).bind fun i => (places P fs).map ((f.offset, i.size) :: ·)

def partsOf (tr : Operand → Option AX) (pl : Nat → Option (Nat × Nat)) : List (Nat × Operand) → Option (List (Nat × Nat × AX))
  | [] => some []
  | (i, x) :: rest => (pl i).bind fun (off, n) => (tr x).bind fun ax => if 0 < n then (partsOf tr pl rest).map ((off, n, ax) :: ·) else none

def trs (tr : Operand → Option AX) : List Operand → Option (List AX)
  | [] => some []
  | x :: xs => (tr x).bind fun a => (trs tr xs).map (a :: ·)

def trO (tr : Operand → Option AX) : Option Operand → Option (Option AX)
  | none => some none
  | some x => (tr x).map some

def repCells (z : List AV) : Nat → List AV
  | 0 => []
  | n + 1 => z ++ repCells z n

def compCall (P : Program) (tr : Operand → Option AX) (c : Call) : Option AOp :=
  match c.callee with
  | .value (.func f) => (trs tr c.args.toList).map fun xas => .call f xas
  | .value x => (tr x).bind fun ax => (trs tr c.args.toList).map fun xas => .callv ax xas
  | .builtin .len => match c.args.toList, (c.argTypes[0]?).bind P.underlying with
    | [x], some .string => (tr x).map (.len true)
    | [x], some (.slice _) => (tr x).map (.len false)
    | [x], some (.map _ _) => (tr x).map .mlen
    | _, _ => none
  | .builtin .append => match c.args.toList, c.argTypes.toList with
    | [x, y], [t, u] => match P.underlying t, P.underlying u with
      | some (.slice e), some (.int .i64) => (P.info? e).bind fun i => (zeroCells P e).bind fun z => if 0 < i.size ∧ 0 < i.bytes ∧ z.length = i.size then (tr x).bind fun ax => (tr y).map fun ay => .appz i.size i.bytes z ax ay else none
      | some (.slice _), some (.int _) => none
      | some (.slice e), some _ => (P.info? e).bind fun i => (zeroCells P e).bind fun z => if 0 < i.size ∧ 0 < i.bytes ∧ z.length = i.size then (tr x).bind fun ax => (tr y).map fun ay => .append i.size i.bytes ax ay else none
      | _, _ => none
    | _, _ => none
  | .builtin .clear => match c.args.toList, c.argTypes.toList with
    | [x], [t] => match P.underlying t with
      | some (.slice e) => (zeroCells P e).bind fun z => (szOf P e).bind fun sz => if z.length = sz then (tr x).map fun ax => .clear sz z ax else none
      | _ => none
    | _, _ => none
  | .builtin .max => (trs tr c.args.toList).map fun xas => .mx true xas
  | .builtin .min => (trs tr c.args.toList).map fun xas => .mx false xas
  | _ => none

def compOp (P : Program) (tr : Operand → Option AX) (o : Op) : Option AOp :=
  match o with
  | .move x | .assign x => (tr x).map .mv
  | .pick c a b => (tr c).bind fun c => (tr a).bind fun a => (tr b).map fun b => .pick c a b
  | .alloc e => (zeroCells P e).map .new
  | .box e x => (szOf P e).bind fun n => (tr x).map (.box n)
  | .build t ps => match P.underlying t with
    | some (.struct fs) => (zeroCells P t).bind fun z => (places P fs.toList).bind fun pl => (partsOf tr (pl[·]?) ps.toList).map fun ps => .build z ps
    | some (.array _ e) => (zeroCells P t).bind fun z => (szOf P e).bind fun sz => (partsOf tr (fun i => some (i * sz, sz)) ps.toList).map fun ps => .build z ps
    | _ => none
  | .buildSlice t len ps => match P.underlying t with
    | some (.slice e) => (zeroCells P e).bind fun z => (szOf P e).bind fun sz => if z.length = sz ∧ len * sz ≤ 16777216 then (partsOf tr (fun i => some (i * sz, sz)) ps.toList).map fun ps => .lit sz len (repCells z len) ps else none
    | _ => none
  | .load t a => (isAggB P t).bind fun b => (szOf P t).bind fun n => (tr a).map fun ax => .load b n ax
  | .store t a v => (szOf P t).bind fun n => (tr a).bind fun ax => (tr v).map fun ay => .store n ax ay
  | .nilCheck x => (tr x).map .nilck
  | .binOp op t x y _ => (tr x).bind fun ax => (tr y).bind fun ay => match P.underlying t with
    | some (.int _) | some .string => some (.bin op ax ay)
    | some .bool => match op with
      | .eql => some (.eqb false ax ay)
      | .neq => some (.eqb true ax ay)
      | _ => none
    | some (.struct _) => match op with
      | .eql => (scalarStruct P t).map fun n => .eqs false n ax ay
      | .neq => (scalarStruct P t).map fun n => .eqs true n ax ay
      | _ => none
    | _ => match op with
      | .eql => (nilClass P t).map fun c => .eqn false c ax ay
      | .neq => (nilClass P t).map fun c => .eqn true c ax ay
      | _ => none
  | .unOp op _ x => (tr x).map (.una op)
  | .convert s d x => (tr x).bind fun ax => match P.underlying s, P.underlying d with
    | some (.int _), some (.int k) => some (.i2i k ax)
    | some .string, some .string => some (.same ax)
    | some .string, some (.slice e) => match P.underlying e with
      | some (.int .u8) => some (.s2b ax)
      | _ => none
    | some (.slice e), some .string => match P.underlying e with
      | some (.int .u8) => some (.b2s ax)
      | _ => none
    | some (.slice _), some (.slice e) => match P.underlying e with
      | some (.int .u8) => if s = d then some (.mark ax) else none
      | _ => none
    | _, _ => none
  | .makeFunc (.func f) first cap => if first.size = 0 then (trs tr cap.toList).map fun xas => .mkfn f xas else none
  | .makeMap _ none => some .mkmap
  | .makeSlice t l c => match P.underlying t with
    | some (.slice e) => (P.info? e).bind fun i => (zeroCells P e).bind fun z => if 0 < i.size ∧ 0 < i.bytes ∧ z.length = i.size then (tr l).bind fun al => (tr c).map fun ac => .mksl i.size i.bytes z al ac else none
    | _ => none
  | .slice t x lo hi mx => match P.underlying t with
    | some .string => match mx with
      | none => (tr x).bind fun ax => (trO tr lo).bind fun lo => (trO tr hi).map fun hi => .sslice ax lo hi
      | some _ => none
    | some (.slice e) => (szOf P e).bind fun sz => (tr x).bind fun ax => (trO tr lo).bind fun lo => (trO tr hi).bind fun hi => (trO tr mx).map fun mx => .slice sz ax lo hi mx
    | _ => none
  | .fieldAddr t x f => match P.underlying t with
    | some (.struct fs) => (fs[f]?).bind fun fd => (szOf P fd.type).bind fun _ => (tr x).map fun ax => .faddr fd.offset ax
    | _ => none
  | .field t x f => match P.underlying t with
    | some (.struct fs) => (fs[f]?).bind fun fd => (isAggB P fd.type).bind fun b => (szOf P fd.type).bind fun n => (tr x).map fun ax => .field b fd.offset n ax
    | _ => none
  | .indexAddr t x i => match P.underlying t with
    | some (.slice e) => (szOf P e).bind fun sz => (tr x).bind fun ax => (tr i).map fun ai => .iaddr sz ax ai
    | some (.array len e) => (szOf P e).bind fun sz => (tr x).bind fun ax => (tr i).map fun ai => .aaddr len sz ax ai
    | _ => none
  | .index t x i => match P.underlying t with
    | some .string => (tr x).bind fun ax => (tr i).map fun ai => .sidx ax ai
    | _ => none
  | .lookup t m k ok => match P.underlying t with
    | some (.map kt e) => (keyKind P kt).bind fun kk => (zeroAV P e).bind fun z => (tr m).bind fun am => (tr k).map fun ak => .look kk z ok am ak
    | _ => none
  | .mapUpdate t m k v => match P.underlying t with
    | some (.map kt _) => (keyKind P kt).bind fun kk => (tr m).bind fun am => (tr k).bind fun ak => (tr v).map fun av => .mapu kk am ak av
    | _ => none
  | .extract t i => (tr t).map fun ax => .ext ax i
  | .call c => compCall P tr c
  | _ => none

/-- an operand: a slot that lives on, or what an earlier operation of the region gave -/
def opd (gl : List Nat) (ds : List (Option Nat)) : Operand → Option AX
  | .tmp t => if gl.contains t then some (.v t) else (ds.idxOf? (some t)).map .l
  | .const v => (constAV v).map .k
  | .func f => some (.k (.fn f []))
  | .global _ => none

/-- rows that are made and never turned are made for good -/
def frz : AOp → AOp
  | .s2b x => .s2bf x
  | .lit a b c d => .litf a b c d
  | .slice sz x (some lo) (some hi) none => .slicex sz x lo hi
  | o => o
def frzN : AOp → AOp
  | .lit a b c d => .litn a b c d
  | o => o
def isTmp (d : Nat) : Operand → Bool
  | .tmp t => t == d
  | _ => false
/-- does an operation take that slot's row so that it may be turned, or hand it on? -/
def turns (d : Nat) (o : Op) : Bool :=
  match o with
  | .move x | .assign x => isTmp d x
  | .pick _ a b => isTmp d a || isTmp d b
  | .slice _ x _ _ _ => isTmp d x
  | .store _ _ v => isTmp d v
  | .mapUpdate _ _ _ v => isTmp d v
  | .box _ v => isTmp d v
  | .call c => match c.callee with
    | .builtin _ => (c.args.toList.take 1).any (isTmp d)
    | _ => false
  | _ => false
/-- the slots whose rows are made for good -/
def goodSlots (gl : List Nat) (ops : List Oper) : List Nat :=
  ops.filterMap fun o => match o.dst with
    | some d => if gl.contains d then none else match o.op with
      | .buildSlice _ _ _ | .convert _ _ _ => if gl.contains (d + 1000000) then some (2 * d) else if ops.any (fun p => turns d p.op) then none else
          if ops.any (fun p => match p.op with | .convert _ _ x => isTmp d x | _ => false) then some (2 * d + 1) else some (2 * d)
      | .slice _ _ (some (.tmp a)) (some _) none => if ops.any (fun p => p.dst == some a && (match p.op with | .call c => (match c.callee with | .builtin .len => true | _ => false) | _ => false)) then some (2 * d) else none
      | _ => none
    | none => none

def makesRow : Op → Bool
  | .buildSlice _ _ _ | .convert _ _ _ => true
  | .slice _ _ _ _ _ => true
  | _ => false
def opOf (al : List Nat) (o : Oper) (ao : AOp) : AOp := match o.dst with | some d => if al.contains (2 * d) && makesRow o.op then frz ao else if al.contains (2 * d + 1) && makesRow o.op then frzN ao else ao | none => ao
/-- the operations of a region; ds: the places that the operations ahead have written -/
def compOps (P : Program) (gl al : List Nat) : List (Option Nat) → List Oper → List AIns
  | _, [] => []
  | ds, o :: rest =>
    ⟨match o.dst with | some d => if gl.contains d then some d else none | none => none,
     opOf al o ((compOp P (opd gl ds) o.op).getD .fail),
     match o.guard with
      | none => none
      | some (j, b) => some (j, b)⟩ :: compOps P gl al (ds ++ [o.dst]) rest

/-- what an operation looks at -/
def looksAt (ops : List Oper) (o : Oper) : List Nat :=
  (o.op.operands.toList.filterMap fun | .tmp t => some t | _ => none) ++ (match o.guard with | some (j, _) => ((ops[j]?).bind (·.dst)).toList | none => [])

def isEvent : AOp → Bool
  | .new _ | .box _ _ | .lit _ _ _ _ | .store _ _ _ | .s2b _ | .mkmap | .mksl _ _ _ _ _ | .mapu _ _ _ _ | .append _ _ _ _ | .appz _ _ _ _ _ | .clear _ _ _ | .call _ _ | .callv _ _ => true
  | _ => false
def isRead : AOp → Bool
  | .load _ _ _ | .look _ _ _ _ _ | .mlen _ | .b2s _ | .slicex _ _ _ _ => true
  | _ => false

/-- the operations ahead that an operation waits for, over and over -/
def ancs : List (List Nat) → List Oper → List (List Nat)
  | acc, [] => acc
  | acc, o :: rest =>
    let ds := (o.after.toList.filter (Region.binds .any)).map (·.on)
    ancs (acc ++ [ds ++ ds.flatMap fun d => acc.getD d []]) rest

def sep (ops : List Oper) (x y : Oper) : Bool :=
  match x.dst with
  | some d => !(looksAt ops y).contains d && (y.dst != some d)
  | none => true

/-- one pair of operations, i ahead of j in the text -/
def pairOk (ops : List Oper) (anc : List (List Nat)) (ins : List AIns) (fl : List (Nat × Nat)) (i j : Nat) : Bool :=
  (anc.getD j []).contains i ||
  match ops[i]?, ops[j]?, ins[i]?, ins[j]? with
  | some x, some y, some a, some b =>
    sep ops x y && sep ops y x && !(isEvent a.op && isEvent b.op) &&
    (!(isRead a.op && isEvent b.op) || fl.contains (i, j)) && (!(isEvent a.op && isRead b.op) || fl.contains (j, i))
  | _, _, _, _ => false

/-- the loads that may come up on either side of an event -/
def flOf (anc : List (List Nat)) (ins : List AIns) : List (Nat × Nat) :=
  (List.range ins.length).flatMap fun i => (List.range ins.length).filterMap fun j =>
    match ins[i]?, ins[j]? with
    | some a, some b => if isRead a.op && isEvent b.op && !(anc.getD j []).contains i && !(anc.getD i []).contains j then some (i, j) else none
    | _, _ => none

def drawOk (ops : List Oper) (ins : List AIns) (fl : List (Nat × Nat)) : Bool :=
  let anc := ancs [] ops
  (List.range ops.length).all fun j => (List.range j).all fun i => pairOk ops anc ins fl i j

def distinct (ds : List (Option Nat)) : Bool :=
  match ds with
  | [] => true
  | none :: ds => distinct ds
  | some d :: ds => !ds.contains (some d) && distinct ds

/-- bounds, guards, distinct places -/
def opsOk (N : Nat) (ops : List Oper) : Bool :=
  distinct (ops.map (·.dst)) &&
  (List.range ops.length).all fun j => match ops[j]? with
    | some o => (match o.dst with | some d => decide (d < N) | none => true) &&
      (match o.guard with | none => true | some (g, _) => decide (g < j) && ((ops[g]?).bind (·.dst)).isSome) &&
      o.after.toList.all fun e => !Region.binds .any e || decide (e.on < j)
    | none => false

def compRegion (P : Program) (gl : List Nat) (N : Nat) (ops : List Oper) (draw : Bool) : ACode :=
  let ins := compOps P gl (goodSlots gl ops) [] ops
  let fl := if draw then flOf (ancs [] ops) ins else []
  if opsOk N ops && (!draw || drawOk ops ins fl) then .region ins fl else .fail

def compCode (P : Program) (gl : List Nat) (N : Nat) : Code → ACode
  | .skip => .skip
  | .region _ ops draw => compRegion P gl N ops.toList draw
  | .seq a b => .seq (compCode P gl N a) (compCode P gl N b)
  | .cond c a b => match opd gl [] c with
    | some ax => .cond ax (compCode P gl N a) (compCode P gl N b)
    | none => .fail
  | .block id c => .block id (compCode P gl N c)
  | .loop c => .loop (compCode P gl N c)
  | .exit id => .exit id
  | .ret => .ret
  | _ => .fail

def compRes (P : Program) (gl : List Nat) : List ResultVar → Option (List ARes)
  | [] => some []
  | .tmp t :: rest => if gl.contains t then (compRes P gl rest).map (.tmp t :: ·) else none
  | .cell a t :: rest => if gl.contains a then (isAggB P t).bind fun b => (szOf P t).bind fun n => (compRes P gl rest).map (.cell b n a :: ·) else none

def compF (P : Program) (gl : List Nat) (fn : Func) : Option AFunc :=
  match fn.body, compRes P gl fn.results.toList with
  | some c, some rs =>
    let np := fn.params.size + fn.nfree
    if np ≤ fn.ntmps && fn.name != "runtime.NumGoroutine" then some ⟨np, compCode P gl fn.ntmps c, rs⟩ else none
  | _, _ => none

/-! ### which slots live on -/
def opTmps (o : Oper) : List Nat := o.op.operands.toList.filterMap fun | .tmp t => some t | _ => none
def glOps : List (Option Nat) → List Oper → List Nat
  | _, [] => []
  | ds, o :: rest => ((opTmps o).filter fun t => !ds.contains (some t)) ++ glOps (ds ++ [o.dst]) rest
def glCode : Code → List Nat
  | .region _ ops _ => glOps [] ops.toList
  | .seq a b => glCode a ++ glCode b
  | .cond c a b => (match c with | Operand.tmp t => [t] | _ => []) ++ glCode a ++ glCode b
  | .block _ c => glCode c
  | .loop c => glCode c
  | _ => []
def insN (n : Nat) : List Nat → List Nat
  | [] => [n]
  | m :: l => if n = m then m :: l else if n < m then n :: m :: l else m :: insN n l
def glFunc (fn : Func) : List Nat :=
  ((fn.body.map glCode).getD [] ++ fn.results.toList.map fun | ResultVar.tmp t => t | ResultVar.cell a _ => a).foldr insN []

end Go.Proofs.YtaajlbbooneiiaaDoor.Avm
set_option linter.unusedVariables false
set_option linter.unusedSimpArgs false
namespace Go.Proofs.YtaajlbbooneiiaaDoor.Avm
open Go.RowKit

structure Pl where
  b : Nat
  o : Nat
  cap : Nat
  tot : Nat

/-- places of the objects; cells that stay as they are -/
structure Pc where
  pl : List Pl
  fz : Addr → Option Value
def Pc.snoc (φ : Pc) (p : Pl) : Pc := ⟨φ.pl ++ [p], φ.fz⟩

inductive V (w0 : World) (φ : Pc) : AV → Value → Prop
  | int (k : IntKind) (n : Int) : V w0 φ (.int k n) (.int k n)
  | bool (b : Bool) : V w0 φ (.bool b) (.bool b)
  | str (s : ByteArray) : V w0 φ (.str s.data.toList) (.string s)
  | nilP : V w0 φ .nilP (.pointer none)
  | ptr {id off : Nat} {p : Pl} (hp : φ.pl[id]? = some p) : V w0 φ (.ptr id off) (.pointer (some ⟨p.b, p.o + off, none⟩))
  | cptr {cs : List AV} {cvs : List Value} {a : Addr} (hl : cs.length = cvs.length) (hc : ∀ (j : Nat) (cv : Value), cvs[j]? = some cv → φ.fz (a.add j) = some cv)
      (h : ∀ (j : Nat) (v : AV) (cv : Value), cs[j]? = some v → cvs[j]? = some cv → V w0 φ v cv) (ho : ∀ cv, cv ∈ cvs → cv.oneCell' = true) : V w0 φ (.cptr cs) (.pointer (some a))
  | nilS : V w0 φ .nilS (.slice none 0 0)
  | sl {id off n sz c : Nat} {a : Addr} {p : Pl} (hp : φ.pl[id]? = some p) (ha : 0 < c → a = ⟨p.b, p.o + off, none⟩) (ht : p.tot ≤ off + c * sz)
      (hc : p.o + off + c * sz ≤ p.cap) (hn : n ≤ c) (hs : 0 < sz) (hk : off + n * sz ≤ p.tot) : V w0 φ (.sl id off n sz) (.slice (some a) n c)
  | slc {id off n sz c : Nat} {a : Addr} {p : Pl} (hp : φ.pl[id]? = some p) (ha : 0 < c → a = ⟨p.b, p.o + off, none⟩) (hk : off + c * sz ≤ p.tot) (hn : n ≤ c) (hs : 0 < sz) : V w0 φ (.slc id off n c sz) (.slice (some a) n c)
  | csl {cs : List AV} {cvs : List Value} {a : Addr} {n c : Nat} (hl : cs.length = cvs.length) (hc : ∀ (j : Nat) (cv : Value), cvs[j]? = some cv → φ.fz (a.add j) = some cv)
      (h : ∀ (j : Nat) (v : AV) (cv : Value), cs[j]? = some v → cvs[j]? = some cv → V w0 φ v cv) (ho : ∀ cv, cv ∈ cvs → cv.oneCell' = true) (hn : n ≤ c) : V w0 φ (.csl cs n) (.slice (some a) n c)
  | csln {cs : List AV} {cvs : List Value} {a : Addr} {n c : Nat} (hl : cs.length = cvs.length) (hc : ∀ (j : Nat) (cv : Value), cvs[j]? = some cv → φ.fz (a.add j) = some cv)
      (h : ∀ (j : Nat) (v : AV) (cv : Value), cs[j]? = some v → cvs[j]? = some cv → V w0 φ v cv) (ho : ∀ cv, cv ∈ cvs → cv.oneCell' = true) (hn : n ≤ c) (hb : w0.heap.size ≤ a.block) (ha : a.spot = none) : V w0 φ (.csln cs n) (.slice (some a) n c)
  | csl0 : V w0 φ (.csl [] 0) (.slice none 0 0)
  | emp {b : Option Addr} : V w0 φ .emp (.slice b 0 0)
  | nsl {a : Addr} {c : Nat} : V w0 φ .nsl (.slice (some a) 0 c)
  | nilM : V w0 φ .nilM (.map none)
  | map {id : Nat} {p : Pl} (hp : φ.pl[id]? = some p) : V w0 φ (.map id) (.map (some p.b))
  | nilC : V w0 φ .nilC (.chan none)
  | chan {id : Nat} {p : Pl} (hp : φ.pl[id]? = some p) : V w0 φ (.chan id) (.chan (some p.b))
  | fn {f : Nat} {cap : List AV} {cvs : List Value} (hl : cap.length = cvs.length) (h : ∀ (j : Nat) (v : AV) (cv : Value), cap[j]? = some v → cvs[j]? = some cv → V w0 φ v cv) :
      V w0 φ (.fn f cap) (.func (.func f) #[] cvs.toArray)
  | nilF : V w0 φ .nilF .nilFunc
  | nilI : V w0 φ .nilI .nilIface
  | agg {cs : List AV} {cvs : List Value} (hl : cs.length = cvs.length) (h : ∀ (j : Nat) (v : AV) (cv : Value), cs[j]? = some v → cvs[j]? = some cv → V w0 φ v cv)
      (ho : ∀ cv, cv ∈ cvs → cv.oneCell' = true) : V w0 φ (.agg cs) (.agg cvs.toArray)
  | tup {vs : List AV} {cvs : List Value} (hl : vs.length = cvs.length) (h : ∀ (j : Nat) (v : AV) (cv : Value), vs[j]? = some v → cvs[j]? = some cv → V w0 φ v cv) : V w0 φ (.tup vs) (.tuple cvs.toArray)
  | junk {cv : Value} (ho : cv.oneCell' = true) : V w0 φ .junk cv

/-- more places, the old ones as they were; more cells that stay -/
structure Ext (φ φ' : Pc) : Prop where
  pl : ∀ (i : Nat) (p : Pl), φ.pl[i]? = some p → φ'.pl[i]? = some p
  fz : ∀ (a : Addr) (cv : Value), φ.fz a = some cv → φ'.fz a = some cv
theorem Ext.refl (φ : Pc) : Ext φ φ := ⟨fun _ _ h => h, fun _ _ h => h⟩
theorem Ext.trans {a b c : Pc} (h : Ext a b) (k : Ext b c) : Ext a c := ⟨fun i p hi => k.pl i p (h.pl i p hi), fun i p hi => k.fz i p (h.fz i p hi)⟩
theorem Ext.snoc (φ : Pc) (p : Pl) : Ext φ (φ.snoc p) := ⟨fun i q h => by
  rw [Pc.snoc, List.getElem?_append_left (List.getElem?_eq_some_iff.1 h).1]; exact h, fun _ _ h => h⟩

theorem V.mono {w0 : World} {φ φ' : Pc} (hx : Ext φ φ') {v : AV} {cv : Value} (h : V w0 φ v cv) : V w0 φ' v cv := by
  induction h with
  | int k n => exact .int k n
  | bool b => exact .bool b
  | str s => exact .str s
  | nilP => exact .nilP
  | ptr hp => exact .ptr (hx.pl _ _ hp)
  | cptr hl hc _ ho ih => exact .cptr hl (fun j cv h => hx.fz _ _ (hc j cv h)) ih ho
  | nilS => exact .nilS
  | sl hp ha ht hc hn hs hk => exact .sl (hx.pl _ _ hp) ha ht hc hn hs hk
  | slc hp ha hk hn hs => exact .slc (hx.pl _ _ hp) ha hk hn hs
  | csl hl hc _ ho hn ih => exact .csl hl (fun j cv h => hx.fz _ _ (hc j cv h)) ih ho hn
  | csln hl hc _ ho hn hb ha ih => exact .csln hl (fun j cv h => hx.fz _ _ (hc j cv h)) ih ho hn hb ha
  | csl0 => exact .csl0
  | emp => exact .emp
  | nsl => exact .nsl
  | nilM => exact .nilM
  | map hp => exact .map (hx.pl _ _ hp)
  | nilC => exact .nilC
  | chan hp => exact .chan (hx.pl _ _ hp)
  | fn hl _ ih => exact .fn hl ih
  | nilF => exact .nilF
  | nilI => exact .nilI
  | agg hl _ ho ih => exact .agg hl ih ho
  | tup hl _ ih => exact .tup hl ih
  | junk ho => exact .junk ho

/-- lists of values -/
def Vs (w0 : World) (φ : Pc) (cs : List AV) (cvs : List Value) : Prop := cs.length = cvs.length ∧ ∀ (j : Nat) (v : AV) (cv : Value), cs[j]? = some v → cvs[j]? = some cv → V w0 φ v cv
/-- lists of cells -/
def Vc (w0 : World) (φ : Pc) (cs : List AV) (cvs : List Value) : Prop := Vs w0 φ cs cvs ∧ ∀ cv, cv ∈ cvs → cv.oneCell' = true

section
variable {w0 : World} {φ φ' : Pc}
theorem Vs.mono (hx : Ext φ φ') {cs : List AV} {cvs : List Value} (h : Vs w0 φ cs cvs) : Vs w0 φ' cs cvs := ⟨h.1, fun j v cv a b => (h.2 j v cv a b).mono hx⟩
theorem Vc.mono (hx : Ext φ φ') {cs : List AV} {cvs : List Value} (h : Vc w0 φ cs cvs) : Vc w0 φ' cs cvs := ⟨h.1.mono hx, h.2⟩
theorem Vs.nil : Vs w0 φ [] [] := ⟨rfl, fun j v cv h => by simp at h⟩
theorem Vs.cons {v : AV} {cv : Value} {cs : List AV} {cvs : List Value} (h : V w0 φ v cv) (k : Vs w0 φ cs cvs) : Vs w0 φ (v :: cs) (cv :: cvs) := by
  refine ⟨by simp [k.1], fun j a b ha hb => ?_⟩
  cases j with
  | zero => simp at ha hb; subst ha; subst hb; exact h
  | succ j => simp at ha hb; exact k.2 j a b ha hb
theorem Vs.cons_inv {v : AV} {cs : List AV} {cvs : List Value} (h : Vs w0 φ (v :: cs) cvs) : ∃ cv cvs', cvs = cv :: cvs' ∧ V w0 φ v cv ∧ Vs w0 φ cs cvs' := by
  cases cvs with
  | nil => simp [Vs] at h
  | cons cv cvs => exact ⟨cv, cvs, rfl, h.2 0 v cv rfl rfl, by simpa using h.1, fun j a b ha hb => h.2 (j + 1) a b (by simpa using ha) (by simpa using hb)⟩
theorem Vs.append {cs ds : List AV} {cvs dvs : List Value} (h : Vs w0 φ cs cvs) (k : Vs w0 φ ds dvs) : Vs w0 φ (cs ++ ds) (cvs ++ dvs) := by
  refine ⟨by simp [h.1, k.1], fun j a b ha hb => ?_⟩
  by_cases hj : j < cs.length
  · rw [List.getElem?_append_left hj] at ha
    rw [List.getElem?_append_left (h.1 ▸ hj)] at hb
    exact h.2 j a b ha hb
  · rw [List.getElem?_append_right (by omega)] at ha
    rw [List.getElem?_append_right (by have := h.1; omega), ← h.1] at hb
    exact k.2 _ a b ha hb
theorem Vs.take {cs : List AV} {cvs : List Value} (h : Vs w0 φ cs cvs) (n : Nat) : Vs w0 φ (cs.take n) (cvs.take n) := by
  refine ⟨by simp [h.1], fun j a b ha hb => ?_⟩
  rw [List.getElem?_take] at ha hb
  split at ha
  · simp_all; exact h.2 j a b ha hb
  · cases ha
theorem Vs.drop {cs : List AV} {cvs : List Value} (h : Vs w0 φ cs cvs) (n : Nat) : Vs w0 φ (cs.drop n) (cvs.drop n) := by
  refine ⟨by simp [h.1], fun j a b ha hb => ?_⟩
  rw [List.getElem?_drop] at ha hb
  exact h.2 _ a b ha hb
theorem Vs.get {cs : List AV} {cvs : List Value} (h : Vs w0 φ cs cvs) {j : Nat} {v : AV} (hv : cs[j]? = some v) : ∃ cv, cvs[j]? = some cv ∧ V w0 φ v cv := by
  have hj : j < cvs.length := by have := (List.getElem?_eq_some_iff.1 hv).1; have := h.1; omega
  exact ⟨cvs[j], List.getElem?_eq_getElem hj, h.2 j v _ hv (List.getElem?_eq_getElem hj)⟩
theorem Vc.append {cs ds : List AV} {cvs dvs : List Value} (h : Vc w0 φ cs cvs) (k : Vc w0 φ ds dvs) : Vc w0 φ (cs ++ ds) (cvs ++ dvs) :=
  ⟨h.1.append k.1, fun cv hcv => (List.mem_append.1 hcv).elim (h.2 cv) (k.2 cv)⟩
theorem Vc.take {cs : List AV} {cvs : List Value} (h : Vc w0 φ cs cvs) (n : Nat) : Vc w0 φ (cs.take n) (cvs.take n) := ⟨h.1.take n, fun cv hcv => h.2 cv (List.mem_of_mem_take hcv)⟩
theorem Vc.drop {cs : List AV} {cvs : List Value} (h : Vc w0 φ cs cvs) (n : Nat) : Vc w0 φ (cs.drop n) (cvs.drop n) := ⟨h.1.drop n, fun cv hcv => h.2 cv (List.mem_of_mem_drop hcv)⟩
theorem Vc.nil : Vc w0 φ [] [] := ⟨.nil, fun _ h => by cases h⟩
theorem Vc.cons {v : AV} {cv : Value} {cs : List AV} {cvs : List Value} (h : V w0 φ v cv) (ho : cv.oneCell' = true) (k : Vc w0 φ cs cvs) : Vc w0 φ (v :: cs) (cv :: cvs) :=
  ⟨.cons h k.1, fun x hx => by cases hx with | head => exact ho | tail _ hx => exact k.2 x hx⟩

/-- a value's cells -/
theorem V.cells {v : AV} {cv : Value} (h : V w0 φ v cv) (hn : v.cells ≠ []) : Vc w0 φ v.cells cv.cells.toList := by
  cases h with
  | agg hl h ho => exact ⟨⟨hl, h⟩, ho⟩
  | tup => exact absurd rfl hn
  | junk ho =>
    have : cv.cells = #[cv] := by cases cv <;> simp_all [Value.oneCell', Value.cells]
    rw [this]; exact .cons (.junk ho) ho .nil
  | _ => all_goals (refine Vc.cons ?_ rfl .nil; constructor <;> assumption)
end

/-- one object -/
def objRel (w0 : World) (φ : Pc) (w : World) (p : Pl) : AObj → Prop
  | .cells cs => p.tot = cs.length ∧ w0.heap.size ≤ p.b ∧ ∃ ccs e fr, w.heap[p.b]? = some (.cells ccs e fr) ∧ ccs.size = p.cap ∧ (fr = (0, 0) ∨ ccs.size ≤ fr.1) ∧
      p.o + cs.length ≤ ccs.size ∧ ∀ (j : Nat) (v : AV), cs[j]? = some v → ∃ cv, ccs[p.o + j]? = some cv ∧ V w0 φ v cv ∧ cv.oneCell' = true
  | .map es => w0.heap.size ≤ p.b ∧ ∃ ces clk, w.heap[p.b]? = some (.map ces clk) ∧ ces.size = es.length ∧
      ∀ (j : Nat) (k v : AV) (e : MapEntry), es[j]? = some (k, v) → ces[j]? = some e → V w0 φ k e.key ∧ V w0 φ v e.val
  | .chan cap buf => w0.heap.size ≤ p.b ∧ ∃ cb s r, w.heap[p.b]? = some (.chan cap cb false s r false) ∧ Vs w0 φ buf cb.toList
  | .dead => True

def live : AObj → Prop
  | .dead => False
  | _ => True

structure Rel (w0 : World) (φ : Pc) (S : Store) (w : World) : Prop where
  below : Below w0.heap.size w0 w
  len : φ.pl.length = S.length
  fz : ∀ (a : Addr) (cv : Value), φ.fz a = some cv → w.cell? a = some cv
  fzb : ∀ (a : Addr) (cv : Value) (i : Nat) (p : Pl) (x : AObj), φ.fz a = some cv → φ.pl[i]? = some p → S[i]? = some x → live x → p.b ≠ a.block
  inj : ∀ (i j : Nat) (p q : Pl) (x y : AObj), φ.pl[i]? = some p → φ.pl[j]? = some q → S[i]? = some x → S[j]? = some y → live x → live y → p.b = q.b → i = j
  obj : ∀ (i : Nat) (p : Pl) (x : AObj), φ.pl[i]? = some p → S[i]? = some x → objRel w0 φ w p x

/-- slots that live on -/
structure FRel (w0 : World) (φ : Pc) (gl : List Nat) (N : Nat) (g : Frame) (a : Act) : Prop where
  size : a.tmps.size = N
  defers : a.defers = []
  slot : ∀ t, t ∈ gl → V w0 φ (g t) (a.tmps.getD t undef)

end Go.Proofs.YtaajlbbooneiiaaDoor.Avm
