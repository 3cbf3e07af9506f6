/- The abstract machine: values, store, operations, code, runs. No program in sight. -/
import Derived.LoopN
namespace Go.Proofs.Ytmijfhepagobdaa.Avm

inductive AV where
  | int (k : IntKind) (n : Int) | bool (b : Bool) | str (s : List UInt8)
  | nilP | ptr (id off : Nat) | cptr (cs : List AV)
  | nilS | emp | nsl | sl (id off n sz : Nat) | slc (id off n c sz : Nat) | csl (cs : List AV) (n : Nat) | csln (cs : List AV) (n : Nat)
  | nilM | map (id : Nat) | nilC | chan (id : Nat)
  | fn (f : Nat) (cap : List AV) | nilF | nilI
  | agg (cs : List AV) | tup (vs : List AV) | junk
  deriving Inhabited

mutual
/-- are two values one? (to be reckoned) -/
def AV.beq : AV → AV → Bool
  | .int k n, .int k' n' => decide (k = k') && decide (n = n')
  | .bool a, .bool b => a == b
  | .str s, .str t => decide (s = t)
  | .nilP, .nilP => true
  | .ptr i o, .ptr i' o' => decide (i = i') && decide (o = o')
  | .cptr a, .cptr b => AV.beqL a b
  | .nilS, .nilS => true
  | .emp, .emp => true
  | .nsl, .nsl => true
  | .sl i o n z, .sl i' o' n' z' => decide (i = i') && decide (o = o') && decide (n = n') && decide (z = z')
  | .slc i o n c z, .slc i' o' n' c' z' => decide (i = i') && decide (o = o') && decide (n = n') && decide (c = c') && decide (z = z')
  | .csl a n, .csl b n' => AV.beqL a b && decide (n = n')
  | .csln a n, .csln b n' => AV.beqL a b && decide (n = n')
  | .nilM, .nilM => true
  | .map i, .map i' => decide (i = i')
  | .nilC, .nilC => true
  | .chan i, .chan i' => decide (i = i')
  | .fn f a, .fn f' b => decide (f = f') && AV.beqL a b
  | .nilF, .nilF => true
  | .nilI, .nilI => true
  | .agg a, .agg b => AV.beqL a b
  | .tup a, .tup b => AV.beqL a b
  | .junk, .junk => true
  | _, _ => false
def AV.beqL : List AV → List AV → Bool
  | [], [] => true
  | a :: l, b :: m => AV.beq a b && AV.beqL l m
  | _, _ => false
end
mutual
theorem AV.beq_eq : ∀ (a b : AV), AV.beq a b = true → a = b
  | .int k n, b, h => by cases b <;> simp_all [AV.beq]
  | .bool _, b, h => by cases b <;> simp_all [AV.beq]
  | .str _, b, h => by cases b <;> simp_all [AV.beq]
  | .nilP, b, h => by cases b <;> simp_all [AV.beq]
  | .ptr _ _, b, h => by cases b <;> simp_all [AV.beq]
  | .cptr l, b, h => by cases b <;> simp only [AV.beq, Bool.false_eq_true] at h; rw [AV.beqL_eq _ _ h]
  | .nilS, b, h => by cases b <;> simp_all [AV.beq]
  | .emp, b, h => by cases b <;> simp_all [AV.beq]
  | .nsl, b, h => by cases b <;> simp_all [AV.beq]
  | .sl _ _ _ _, b, h => by cases b <;> simp_all [AV.beq]
  | .slc _ _ _ _ _, b, h => by cases b <;> simp_all [AV.beq]
  | .csl l n, b, h => by cases b <;> simp only [AV.beq, Bool.false_eq_true, Bool.and_eq_true, decide_eq_true_eq] at h; rw [AV.beqL_eq _ _ h.1, h.2]
  | .csln l n, b, h => by cases b <;> simp only [AV.beq, Bool.false_eq_true, Bool.and_eq_true, decide_eq_true_eq] at h; rw [AV.beqL_eq _ _ h.1, h.2]
  | .nilM, b, h => by cases b <;> simp_all [AV.beq]
  | .map _, b, h => by cases b <;> simp_all [AV.beq]
  | .nilC, b, h => by cases b <;> simp_all [AV.beq]
  | .chan _, b, h => by cases b <;> simp_all [AV.beq]
  | .fn f l, b, h => by cases b <;> simp only [AV.beq, Bool.false_eq_true, Bool.and_eq_true, decide_eq_true_eq] at h; rw [AV.beqL_eq _ _ h.2, h.1]
  | .nilF, b, h => by cases b <;> simp_all [AV.beq]
  | .nilI, b, h => by cases b <;> simp_all [AV.beq]
  | .agg l, b, h => by cases b <;> simp only [AV.beq, Bool.false_eq_true] at h; rw [AV.beqL_eq _ _ h]
  | .tup l, b, h => by cases b <;> simp only [AV.beq, Bool.false_eq_true] at h; rw [AV.beqL_eq _ _ h]
  | .junk, b, h => by cases b <;> simp_all [AV.beq]
theorem AV.beqL_eq : ∀ (a b : List AV), AV.beqL a b = true → a = b
  | [], b, h => by cases b <;> simp_all [AV.beqL]
  | a :: l, b, h => by
    cases b with
    | nil => simp [AV.beqL] at h
    | cons b m =>
      simp only [AV.beqL, Bool.and_eq_true] at h
      rw [AV.beq_eq _ _ h.1, AV.beqL_eq _ _ h.2]
end
mutual
theorem AV.beq_refl : ∀ (a : AV), AV.beq a a = true
  | .int k n | .bool _ | .str _ | .nilP | .ptr _ _ | .nilS | .emp | .nsl | .sl _ _ _ _ | .slc _ _ _ _ _ | .nilM | .map _ | .nilC | .chan _ | .nilF | .nilI | .junk => by simp [AV.beq]
  | .cptr l => by simp only [AV.beq]; exact AV.beqL_refl l
  | .csl l n => by simp only [AV.beq, AV.beqL_refl l, decide_true, Bool.and_self]
  | .csln l n => by simp only [AV.beq, AV.beqL_refl l, decide_true, Bool.and_self]
  | .fn f l => by simp only [AV.beq, AV.beqL_refl l, decide_true, Bool.and_self]
  | .agg l => by simp only [AV.beq]; exact AV.beqL_refl l
  | .tup l => by simp only [AV.beq]; exact AV.beqL_refl l
theorem AV.beqL_refl : ∀ (a : List AV), AV.beqL a a = true
  | [] => by simp [AV.beqL]
  | a :: l => by simp only [AV.beqL, AV.beq_refl a, AV.beqL_refl l, Bool.and_self]
end

abbrev AV.undef : AV := .tup []

inductive AObj where
  | cells (cs : List AV)
  | map (es : List (AV × AV))
  | chan (cap : Nat) (buf : List AV)
  | dead
  deriving Inhabited

abbrev Store := List AObj
abbrev Frame := Nat → AV

def upd (g : Frame) (i : Nat) (v : AV) : Frame := fun j => if j = i then v else g j
theorem upd_apply (g : Frame) (i : Nat) (v : AV) (j : Nat) : upd g i v j = if j = i then v else g j := rfl

/-- operands -/
inductive AX where
  | l (i : Nat) | v (t : Nat) | k (v : AV)
  deriving Inhabited

def ev (g : Frame) (L : List AV) : AX → AV
  | .l i => L.getD i .undef
  | .v t => g t
  | .k v => v

/-- the cells of a value -/
def AV.cells : AV → List AV
  | .agg cs => cs
  | .tup _ => []
  | v => [v]

inductive AOp where
  | mv (x : AX)
  | pick (c a b : AX)
  | new (cs : List AV)
  | box (n : Nat) (x : AX)
  | build (zero : List AV) (parts : List (Nat × Nat × AX))
  | lit (sz : Nat) (len : Nat) (zero : List AV) (parts : List (Nat × Nat × AX))
  | load (agg : Bool) (n : Nat) (x : AX)
  | store (n : Nat) (x y : AX)
  | nilck (x : AX)
  | bin (op : BinOp) (x y : AX)
  | eqb (neg : Bool) (x y : AX)
  | eqn (neg : Bool) (cls : Nat) (x y : AX)
  | eqs (neg : Bool) (ks : List Nat) (x y : AX)
  | una (op : UnOp) (x : AX)
  | i2i (k : IntKind) (x : AX)
  | same (x : AX)
  | s2b (x : AX)
  | s2bf (x : AX)
  | mark (x : AX)
  | litn (sz : Nat) (len : Nat) (zero : List AV) (parts : List (Nat × Nat × AX))
  | litf (sz : Nat) (len : Nat) (zero : List AV) (parts : List (Nat × Nat × AX))
  | b2s (x : AX)
  | mkfn (f : Nat) (cap : List AX)
  | mkmap
  | mksl (sz bytes : Nat) (zero : List AV) (x y : AX)
  | slice (sz : Nat) (x : AX) (lo hi mx : Option AX)
  | slicex (sz : Nat) (x lo hi : AX)
  | sslice (x : AX) (lo hi : Option AX)
  | faddr (off : Nat) (x : AX)
  | field (agg : Bool) (off n : Nat) (x : AX)
  | iaddr (sz : Nat) (x i : AX)
  | aaddr (len sz : Nat) (x i : AX)
  | sidx (x i : AX)
  | look (kk : List Nat) (zero : AV) (ok : Bool) (x i : AX)
  | mapu (kk : List Nat) (x i y : AX)
  | ext (x : AX) (i : Nat)
  | len (str : Bool) (x : AX)
  | mlen (x : AX)
  | append (sz bytes : Nat) (x y : AX)
  | clear (sz : Nat) (zero : List AV) (x : AX)
  | mx (gt : Bool) (xs : List AX)
  | call (f : Nat) (args : List AX)
  | callv (x : AX) (args : List AX)
  | fail
  deriving Inhabited

structure AIns where
  dst : Option Nat
  op : AOp
  guard : Option (Nat × Bool)
  deriving Inhabited

inductive ACode where
  | skip
  | region (ins : List AIns) (fl : List (Nat × Nat))
  | seq (a b : ACode)
  | cond (c : AX) (a b : ACode)
  | block (id : Nat) (c : ACode)
  | loop (c : ACode)
  | exit (id : Nat)
  | ret
  | fail
  deriving Inhabited

inductive AExit where
  | normal | exit (id : Nat) | ret
  deriving Inhabited

inductive ARes where
  | tmp (t : Nat) | cell (agg : Bool) (n : Nat) (t : Nat)
  deriving Inhabited

structure AFunc where
  np : Nat
  body : ACode
  res : List ARes
  deriving Inhabited

abbrev CallF := Nat → List AV → Store → Option (AV × Store)

/-! ### operations -/

def abin (op : BinOp) : AV → AV → Option AV
  | .int k a, .int k' b =>
    match op with
    | .shl => if b < 0 then none else some (.int k (k.wrap (a * 2 ^ (min b.toNat k.bits))))
    | .shr => if b < 0 then none else some (.int k (a.fdiv (2 ^ (min b.toNat k.bits))))
    | op => if k = k' then match op with
      | .add => some (.int k (k.wrap (a + b)))
      | .sub => some (.int k (k.wrap (a - b)))
      | .mul => some (.int k (k.wrap (a * b)))
      | .quo => if b = 0 then none else some (.int k (k.wrap (a.tdiv b)))
      | .rem => if b = 0 then none else some (.int k (a.tmod b))
      | .and => some (.int k (k.wrap (BitVec.ofInt k.bits a &&& BitVec.ofInt k.bits b).toNat))
      | .or => some (.int k (k.wrap (BitVec.ofInt k.bits a ||| BitVec.ofInt k.bits b).toNat))
      | .xor => some (.int k (k.wrap (BitVec.ofInt k.bits a ^^^ BitVec.ofInt k.bits b).toNat))
      | .andNot => some (.int k (k.wrap (BitVec.ofInt k.bits a &&& ~~~ BitVec.ofInt k.bits b).toNat))
      | .eql => some (.bool (decide (a = b)))
      | .neq => some (.bool (!decide (a = b)))
      | .lss => some (.bool (decide (a < b)))
      | .leq => some (.bool (decide (a ≤ b)))
      | .gtr => some (.bool (decide (b < a)))
      | .geq => some (.bool (decide (b ≤ a)))
      | _ => none
    else none
  | .str a, .str b =>
    match op with
    | .add => if a.length + b.length ≤ 140737488355328 then some (.str (a ++ b)) else none
    | .eql => some (.bool (decide (a = b)))
    | .neq => some (.bool (!decide (a = b)))
    | .lss => some (.bool (Op.bytesLess a b))
    | .leq => some (.bool (Op.bytesLess a b || decide (a = b)))
    | .gtr => some (.bool (!(Op.bytesLess a b || decide (a = b))))
    | .geq => some (.bool (!Op.bytesLess a b))
    | _ => none
  | _, _ => none

/-- is a value nil, of pointers (0), slices (1), maps (2), channels (3), functions (4)? -/
def isNil : Nat → AV → Option Bool
  | 0, .nilP => some true | 0, .ptr _ _ => some false | 0, .cptr _ => some false
  | 1, .nilS => some true | 1, .sl _ _ _ _ => some false | 1, .slc _ _ _ _ _ => some false | 1, .csl _ n => if n = 0 then none else some false
  | 1, .nsl => some false
  | 2, .nilM => some true | 2, .map _ => some false
  | 3, .nilC => some true | 3, .chan _ => some false
  | 4, .nilF => some true | 4, .fn _ _ => some false
  | _, _ => none

/-- are two scalars one? kinds: 0 whole numbers, 1 strings, 2 bools -/
def aeq1 : Nat → AV → AV → Option Bool
  | 0, .int k a, .int k' b => if k = k' then some (decide (a = b)) else none
  | 1, .str a, .str b => some (decide (a = b))
  | 2, .bool a, .bool b => some (a == b)
  | _, _, _ => none

def aeqs : List Nat → List AV → List AV → Option Bool
  | [], [], [] => some true
  | k :: ks, a :: as, b :: bs => (aeq1 k a b).bind fun x => if x then aeqs ks as bs else some false
  | _, _, _ => none

def auna (op : UnOp) : AV → Option AV
  | .int k n => match op with
    | .neg => some (.int k (k.wrap (0 - n)))
    | _ => none
  | .bool b => match op with
    | .not => some (.bool (!b))
    | _ => none
  | _ => none

/-- parts put into cells -/
def fillA (ev : AX → AV) : List AV → List (Nat × Nat × AX) → Option (List AV)
  | cs, [] => some cs
  | cs, (off, n, x) :: rest =>
    let v := (ev x).cells
    if v.length = n ∧ off + n ≤ cs.length then fillA ev (cs.take off ++ v ++ cs.drop (off + n)) rest else none

/-- what a slice's (or string's) elements are, as cells -/
def elems (S : Store) (sz : Nat) : AV → Option (List AV × Nat)
  | .nilS => some ([], 0)
  | .emp => some ([], 0)
  | .nsl => some ([], 0)
  | .csl cs n => if cs.length = n * sz then some (cs, n) else none
  | .sl id off n sz' => match S[id]? with
    | some (.cells cs) => if sz = sz' ∧ off + n * sz ≤ cs.length then some ((cs.drop off).take (n * sz), n) else none
    | _ => none
  | .slc id off n _ sz' => match S[id]? with
    | some (.cells cs) => if sz = sz' ∧ off + n * sz ≤ cs.length then some ((cs.drop off).take (n * sz), n) else none
    | _ => none
  | .str s => if sz = 1 then some (s.map fun c => .int .u8 c.toNat, s.length) else none
  | _ => none

def optInt (ev : AX → AV) (d : Int) : Option AX → Option Int
  | none => some d
  | some x => match ev x with
    | .int _ n => some n
    | _ => none

/-- are two keys one? kinds: [0] whole numbers, [1] strings, 3 :: ks structs of scalars -/
def keyEq : List Nat → AV → AV → Option Bool
  | [0], .int i a, .int j b => if i = j then some (decide (a = b)) else none
  | [1], .str a, .str b => some (decide (a = b))
  | 3 :: ks, .agg a, .agg b => if a.length = ks.length ∧ b.length = ks.length then aeqs ks a b else none
  | _, _, _ => none

/-- where a key stands among entries -/
def findA (kk : List Nat) (k : AV) : List (AV × AV) → Option (Option AV)
  | [] => some none
  | (k', v) :: es => (keyEq kk k k').bind fun t => if t then some (some v) else findA kk k es

def putA (kk : List Nat) (k v : AV) : List (AV × AV) → Option (List (AV × AV))
  | [] => some [(k, v)]
  | (k', v') :: es => (keyEq kk k k').bind fun t => if t then some ((k, v) :: es) else (putA kk k v es).map ((k', v') :: ·)

def keyOk : List Nat → AV → Bool
  | [0], .int _ _ => true
  | [1], .str _ => true
  | 3 :: ks, .agg a => a.length == ks.length
  | _, _ => false

def loadA (S : Store) (agg : Bool) (n : Nat) : AV → Option AV
  | .ptr id off => match S[id]? with
    | some (.cells cs) => if agg then if off + n ≤ cs.length then some (.agg ((cs.drop off).take n)) else none else cs[off]?
    | _ => none
  | .cptr cs => if agg then if n ≤ cs.length then some (.agg (cs.take n)) else none else cs[0]?
  | _ => none

def mxA (gt : Bool) : AV → List AV → Option AV
  | v, [] => some v
  | .int k x, .int _ y :: rest => mxA gt (.int k (if gt then (if y > x then y else x) else (if y < x then y else x))) rest
  | _, _ => none

def evs (ev : AX → AV) : List AX → List AV
  | [] => []
  | x :: xs => ev x :: evs ev xs

def asBytes : List AV → Option (List UInt8)
  | [] => some []
  | .int .u8 n :: rest => if 0 ≤ n ∧ n < 256 then (asBytes rest).map (UInt8.ofNat n.toNat :: ·) else none
  | _ => none

def aop (cf : CallF) (S : Store) (ev : AX → AV) : AOp → Option (AV × Store)
  | .mv x => some (ev x, S)
  | .pick c a b => match ev c with
    | .bool t => some (if t then ev a else ev b, S)
    | _ => none
  | .new cs => some (.ptr S.length 0, S ++ [.cells cs])
  | .box n x => if (ev x).cells.length = n then some (.ptr S.length 0, S ++ [.cells (ev x).cells]) else none
  | .build zero parts => (fillA ev zero parts).map fun cs => (.agg cs, S)
  | .lit sz len zero parts => if len * sz = zero.length then (fillA ev zero parts).map fun cs => (.sl S.length 0 len sz, S ++ [.cells cs]) else none
  | .load agg n x => (loadA S agg n (ev x)).map fun v => (v, S)
  | .store n x y => match ev x with
    | .ptr id off => match S[id]? with
      | some (.cells cs) =>
        if (ev y).cells.length = n ∧ off + n ≤ cs.length then some (.undef, S.set id (.cells (cs.take off ++ (ev y).cells ++ cs.drop (off + n)))) else none
      | _ => none
    | _ => none
  | .nilck x => match ev x with
    | .ptr id off => some (.ptr id off, S)
    | .cptr cs => some (.cptr cs, S)
    | .fn f cap => some (.fn f cap, S)
    | _ => none
  | .bin op x y => (abin op (ev x) (ev y)).map fun v => (v, S)
  | .eqb neg x y => match ev x, ev y with
    | .bool a, .bool b => some (.bool (if neg then a != b else a == b), S)
    | _, _ => none
  | .eqn neg cls x y => match isNil cls (ev x), isNil cls (ev y) with
    | some a, some true => some (.bool (if neg then !a else a), S)
    | _, _ => none
  | .eqs neg ks x y => match ev x, ev y with
    | .agg a, .agg b => if a.length = ks.length ∧ b.length = ks.length then (aeqs ks a b).map fun t => (.bool (if neg then !t else t), S) else none
    | _, _ => none
  | .una op x => (auna op (ev x)).map fun v => (v, S)
  | .i2i k x => match ev x with
    | .int _ n => some (.int k (k.wrap n), S)
    | _ => none
  | .same x => match ev x with
    | .str s => some (.str s, S)
    | _ => none
  | .s2b x => match ev x with
    | .str s => if s.length ≤ 140737488355328 then some (.sl S.length 0 s.length 1, S ++ [.cells (s.map fun c => .int .u8 c.toNat)]) else none
    | _ => none
  | .s2bf x => match ev x with
    | .str s => if s.length ≤ 140737488355328 then some (.csl (s.map fun c => .int .u8 c.toNat) s.length, S) else none
    | _ => none
  | .mark x => match ev x with
    | .csln cs n => if cs.length = 0 then none else some (.csl cs n, S)
    | _ => none
  | .litn sz len zero parts => if len * sz = zero.length then (fillA ev zero parts).map fun cs => (.csln cs len, S) else none
  | .litf sz len zero parts => if len * sz = zero.length then (fillA ev zero parts).map fun cs => (.csl cs len, S) else none
  | .b2s x => (match ev x with | .str _ => none | y => elems S 1 y).bind fun (p : List AV × Nat) =>
      (asBytes p.1).map fun s => (.str s, S)
  | .mkfn f cap => some (.fn f (evs ev cap), S)
  | .mkmap => some (.map S.length, S ++ [.map []])
  | .mksl sz bytes zero x y => match ev x, ev y with
    | .int .i64 n, .int .i64 m => if n = m ∧ 0 ≤ n ∧ n * bytes ≤ 140737488355328 ∧ zero.length = sz then
        some (.sl S.length 0 n.toNat sz, S ++ [.cells (List.replicate n.toNat zero).flatten]) else none
    | _, _ => none
  | .slice sz x lo hi mx => match ev x with
    | .nilS => (optInt ev 0 lo).bind fun l => (optInt ev 0 hi).bind fun h => (optInt ev 0 mx).bind fun m => if l = 0 ∧ h = 0 ∧ m = 0 ∧ (mx.isNone ∨ hi.isSome) then some (.nilS, S) else none
    | .emp => (optInt ev 0 lo).bind fun l => (optInt ev 0 hi).bind fun h => (optInt ev 0 mx).bind fun m => if l = 0 ∧ h = 0 ∧ m = 0 ∧ (mx.isNone ∨ hi.isSome) then some (.emp, S) else none
    | .nsl => (optInt ev 0 lo).bind fun l => (optInt ev 0 hi).bind fun h => (optInt ev 0 mx).bind fun m => if l = 0 ∧ h = 0 ∧ m = 0 ∧ (mx.isNone ∨ hi.isSome) then some (if mx.isSome then .emp else .csl [] 0, S) else none
    | .csl cs n => (optInt ev 0 lo).bind fun l => (optInt ev n hi).bind fun h => (optInt ev n mx).bind fun m =>
        if 0 ≤ l ∧ l ≤ h ∧ h ≤ m ∧ m ≤ n ∧ (mx.isNone ∨ hi.isSome) then some (if mx.isSome ∧ m = l then .emp else .csl ((cs.drop (l.toNat * sz)).take ((h.toNat - l.toNat) * sz)) (h.toNat - l.toNat), S) else none
    | .sl id off n sz' => (optInt ev 0 lo).bind fun l => (optInt ev n hi).bind fun h => (optInt ev n mx).bind fun m =>
        if sz = sz' ∧ 0 ≤ l ∧ l ≤ h ∧ h ≤ m ∧ m ≤ n ∧ (mx.isNone ∨ hi.isSome) then
          some (if mx.isNone then .sl id (off + l.toNat * sz) (h.toNat - l.toNat) sz else .slc id (off + l.toNat * sz) (h.toNat - l.toNat) (m.toNat - l.toNat) sz, S) else none
    | .slc id off n c sz' => (optInt ev 0 lo).bind fun l => (optInt ev n hi).bind fun h => (optInt ev c mx).bind fun m =>
        if sz = sz' ∧ 0 ≤ l ∧ l ≤ h ∧ h ≤ m ∧ m ≤ c ∧ (mx.isNone ∨ hi.isSome) then
          some (.slc id (off + l.toNat * sz) (h.toNat - l.toNat) (m.toNat - l.toNat) sz, S) else none
    | _ => none
  | .slicex sz x lo hi => match ev x, ev lo, ev hi with
    | .sl id off _ sz', .int _ l, .int _ h => match S[id]? with
      | some (.cells cs) => if sz = sz' ∧ 0 ≤ l ∧ l ≤ h ∧ off + h.toNat * sz ≤ cs.length then some (.sl id (off + l.toNat * sz) (h.toNat - l.toNat) sz, S) else none
      | _ => none
    | _, _, _ => none
  | .sslice x lo hi => match ev x with
    | .str s => (optInt ev 0 lo).bind fun l => (optInt ev s.length hi).bind fun h =>
        if 0 ≤ l ∧ l ≤ h ∧ h ≤ s.length then some (.str ((s.drop l.toNat).take (h.toNat - l.toNat)), S) else none
    | _ => none
  | .faddr off x => match ev x with
    | .ptr id o => some (.ptr id (o + off), S)
    | .cptr cs => some (.cptr (cs.drop off), S)
    | _ => none
  | .field agg off n x => match ev x with
    | .agg cs => if off + n ≤ cs.length then
        if agg then some (.agg ((cs.drop off).take n), S) else (cs[off]?).map fun v => (v, S) else none
    | _ => none
  | .iaddr sz x i => match ev x, ev i with
    | .csl cs n, .int _ j => if 0 ≤ j ∧ j < n then some (.cptr (cs.drop (j.toNat * sz)), S) else none
    | .sl id off n sz', .int _ j => if 0 ≤ j ∧ j < n ∧ sz = sz' then some (.ptr id (off + j.toNat * sz), S) else none
    | .slc id off n _ sz', .int _ j => if 0 ≤ j ∧ j < n ∧ sz = sz' then some (.ptr id (off + j.toNat * sz), S) else none
    | _, _ => none
  | .aaddr len sz x i => match ev x, ev i with
    | .cptr cs, .int _ j => if 0 ≤ j ∧ j < len then some (.cptr (cs.drop (j.toNat * sz)), S) else none
    | .ptr id off, .int _ j => if 0 ≤ j ∧ j < len then some (.ptr id (off + j.toNat * sz), S) else none
    | _, _ => none
  | .sidx x i => match ev x, ev i with
    | .str s, .int _ j => if 0 ≤ j then (s[j.toNat]?).map fun c => (.int .u8 c.toNat, S) else none
    | _, _ => none
  | .look kk zero ok x i => match ev x with
    | .nilM => if keyOk kk (ev i) then some (if ok then .tup [zero, .bool false] else zero, S) else none
    | .map id => match S[id]? with
      | some (.map es) => if keyOk kk (ev i) then (findA kk (ev i) es).map fun r => match r with
        | some v => (if ok then .tup [v, .bool true] else v, S)
        | none => (if ok then .tup [zero, .bool false] else zero, S) else none
      | _ => none
    | _ => none
  | .mapu kk x i y => match ev x with
    | .map id => match S[id]? with
      | some (.map es) => if keyOk kk (ev i) then (putA kk (ev i) (ev y) es).map fun es' => (.undef, S.set id (.map es')) else none
      | _ => none
    | _ => none
  | .ext x i => match ev x with
    | .tup vs => (vs[i]?).map fun v => (v, S)
    | _ => none
  | .len b x => match b, ev x with
    | true, .str s => some (.int .i64 s.length, S)
    | false, .nilS => some (.int .i64 0, S)
    | false, .emp => some (.int .i64 0, S)
    | false, .nsl => some (.int .i64 0, S)
    | false, .csl _ n => some (.int .i64 n, S)
    | false, .sl _ _ n _ => some (.int .i64 n, S)
    | false, .slc _ _ n _ _ => some (.int .i64 n, S)
    | _, _ => none
  | .mlen x => match ev x with
    | .nilM => some (.int .i64 0, S)
    | .map id => match S[id]? with
      | some (.map es) => some (.int .i64 es.length, S)
      | _ => none
    | _ => none
  | .append sz bytes x y => (elems S sz (ev y)).bind fun (ys, m) =>
    match ev x with
    | .nilS => if m = 0 then some (.nilS, S) else
        if m * bytes ≤ 140737488355328 then some (.sl S.length 0 m sz, S ++ [.cells ys]) else none
    | .emp => if m = 0 then some (.emp, S) else
        if m * bytes ≤ 140737488355328 then some (.sl S.length 0 m sz, S ++ [.cells ys]) else none
    | .csl cs n => if m = 0 then some (.csl cs n, S) else none
    | .nsl => if m = 0 then some (.nsl, S) else none
    | .sl id off n sz' => match S[id]? with
      | some (.cells cs) =>
        if sz = sz' then
          if off + (n + m) * sz ≤ cs.length then
            some (.sl id off (n + m) sz, S.set id (.cells (cs.take (off + n * sz) ++ ys ++ cs.drop (off + (n + m) * sz))))
          else if off + n * sz = cs.length ∧ (n + m) * bytes ≤ 140737488355328 then
            some (.sl S.length 0 (n + m) sz, (S.set id .dead) ++ [.cells (cs.drop off ++ ys)])
          else none
        else none
      | _ => none
    | .slc id off n c sz' => match S[id]? with
      | some (.cells cs) =>
        if sz = sz' ∧ off + c * sz ≤ cs.length then
          if n + m ≤ c then
            some (.slc id off (n + m) c sz, S.set id (.cells (cs.take (off + n * sz) ++ ys ++ cs.drop (off + (n + m) * sz))))
          else if (n + m) * bytes ≤ 140737488355328 then
            some (.sl S.length 0 (n + m) sz, S ++ [.cells ((cs.drop off).take (n * sz) ++ ys)])
          else none
        else none
      | _ => none
    | _ => none
  | .clear sz zero x => match ev x with
    | .nilS => some (.undef, S)
    | .emp => some (.undef, S)
    | .nsl => some (.undef, S)
    | .csl _ n => if n = 0 then some (.undef, S) else none
    | .sl id off n sz' => match S[id]? with
      | some (.cells cs) => if sz = sz' ∧ zero.length = sz ∧ off + n * sz ≤ cs.length then
          some (.undef, S.set id (.cells (cs.take off ++ (List.replicate n zero).flatten ++ cs.drop (off + n * sz)))) else none
      | _ => none
    | _ => none
  | .mx gt xs => match evs ev xs with
    | v :: vs => (mxA gt v vs).map fun v => (v, S)
    | [] => none
  | .call f args => cf f (evs ev args) S
  | .callv x args => match ev x with
    | .fn f cap => cf f (evs ev args ++ cap) S
    | _ => none
  | .fail => none

/-! ### code -/

/-- the instructions of a region, in the text's order; what stood before each -/
def ains (cf : CallF) : Frame → Store → List AV → List AIns → Option (Frame × Store × List AV)
  | g, S, L, [] => some (g, S, L)
  | g, S, L, i :: rest =>
    let go (v : AV) (S' : Store) := ains cf (match i.dst with | some t => upd g t v | none => g) S' (L ++ [v]) rest
    match i.guard with
    | none => (aop cf S (ev g L) i.op).bind fun (v, S') => go v S'
    | some (j, b) => match L.getD j .undef with
      | .bool t => if t = b then (aop cf S (ev g L) i.op).bind fun (v, S') => go v S' else go .undef S
      | .tup _ => go .undef S
      | _ => none

/-- is an instruction wanted? -/
def wantA (i : AIns) (L : List AV) : Option Bool :=
  match i.guard with
  | none => some true
  | some (j, b) => match L.getD j .undef with
    | .bool t => some (decide (t = b))
    | .tup _ => some false
    | _ => none

/-- the store after k instructions -/
def storeAt (cf : CallF) (g : Frame) (S : Store) (ins : List AIns) (k : Nat) : Option (Frame × Store × List AV) := ains cf g S [] (ins.take k)

/-- a load that may come up on either side of an event: the same value on both -/
def floats (cf : CallF) (g : Frame) (S : Store) (ins : List AIns) : List (Nat × Nat) → Bool
  | [] => true
  | (i, j) :: rest =>
    (match ins[i]?, storeAt cf g S ins i, storeAt cf g S ins (if i < j then j + 1 else j), storeAt cf g S ins (i + 1) with
     | some o, some (gi, _, Li), some (_, Sj, _), some (_, _, Lv) =>
       if wantA o Li = some false then true else
       match aop cf Sj (ev gi Li) o.op with
       | some (v, _) => AV.beq v (Lv.getD i .undef)
       | none => false
     | _, _, _, _ => false) && floats cf g S ins rest

def loopA (body : Frame → Store → Option (AExit × Frame × Store)) : Nat → Frame → Store → Option (AExit × Frame × Store)
  | 0, _, _ => none
  | n + 1, g, S => match body g S with
    | some (.normal, g', S') => loopA body n g' S'
    | r => r

def exec (cf : CallF) (n : Nat) : ACode → Frame → Store → Option (AExit × Frame × Store)
  | .skip, g, S => some (.normal, g, S)
  | .region ins fl, g, S => match ains cf g S [] ins with
    | some (g', S', _) => if floats cf g S ins fl then some (.normal, g', S') else none
    | none => none
  | .seq a b, g, S => match exec cf n a g S with
    | some (.normal, g', S') => exec cf n b g' S'
    | r => r
  | .cond c a b, g, S => match ev g [] c with
    | .bool true => exec cf n a g S
    | .bool false => exec cf n b g S
    | _ => none
  | .block id c, g, S => match exec cf n c g S with
    | some (.exit i, g', S') => if i = id then some (.normal, g', S') else some (.exit i, g', S')
    | r => r
  | .loop c, g, S => loopA (exec cf n c) n g S
  | .exit id, g, S => some (.exit id, g, S)
  | .ret, g, S => some (.ret, g, S)
  | .fail, _, _ => none

def resA (g : Frame) (S : Store) : List ARes → Option (List AV)
  | [] => some []
  | .tmp t :: rest => (resA g S rest).map (g t :: ·)
  | .cell agg n t :: rest => (loadA S agg n (g t)).bind fun v => (resA g S rest).map (v :: ·)

def oneOrTup : List AV → AV
  | [v] => v
  | vs => .tup vs

def initA (args : List AV) : Frame := fun i => args.getD i .undef

/-- what is told of functions: their code, or what they do (a primitive one) -/
structure Env where
  F : Nat → Option AFunc
  prim : Nat → Option (CallF → List AV → Store → Option (AV × Store))

def run (E : Env) : Nat → CallF
  | 0, _, _, _ => none
  | n + 1, f, args, S => match E.prim f with
    | some p => p (run E n) args S
    | none => match E.F f with
      | some fn => if args.length = fn.np then match exec (run E n) (n + 1) fn.body (initA args) S with
        | some (.exit _, _, _) => none
        | some (_, g, S') => (resA g S' fn.res).map fun vs => (oneOrTup vs, S')
        | none => none else none
      | none => none

end Go.Proofs.Ytmijfhepagobdaa.Avm
