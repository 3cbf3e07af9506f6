/- The abstract machine: values, store, operations, code, runs. No program in sight. Walking through abstract code: what must hold ahead so that something holds behind. -/
import Derived.LoopN
namespace Go.Proofs.YtaajlbbooneiiaaDoor.Avm

inductive AV where
  | int (k : IntKind) (n : Int) | bool (b : Bool) | str (s : List UInt8)
  | nilP | ptr (id off : Nat) | cptr (cs : List AV)
  | nilS | emp | nsl | sl (id off n sz : Nat) | slc (id off n c sz : Nat) | csl (cs : List AV) (n : Nat) | csln (cs : List AV) (n : Nat)
  | nilM | map (id : Nat) | nilC | chan (id : Nat)
  | fn (f : Nat) (cap : List AV) | nilF | nilI
  | agg (cs : List AV) | tup (vs : List AV) | junk
  deriving Inhabited

mutual
/-- are two values one? (to be reckoned) -/
def AV.beq : AV → AV → Bool
  | .int k n, .int k' n' => decide (k = k') && decide (n = n')
  | .bool a, .bool b => a == b
  | .str s, .str t => decide (s = t)
  | .nilP, .nilP => true
  | .ptr i o, .ptr i' o' => decide (i = i') && decide (o = o')
  | .cptr a, .cptr b => AV.beqL a b
  | .nilS, .nilS => true
  | .emp, .emp => true
  | .nsl, .nsl => true
  | .sl i o n z, .sl i' o' n' z' => decide (i = i') && decide (o = o') && decide (n = n') && decide (z = z')
  | .slc i o n c z, .slc i' o' n' c' z' => decide (i = i') && decide (o = o') && decide (n = n') && decide (c = c') && decide (z = z')
  | .csl a n, .csl b n' => AV.beqL a b && decide (n = n')
  | .csln a n, .csln b n' => AV.beqL a b && decide (n = n')
  | .nilM, .nilM => true
  | .map i, .map i' => decide (i = i')
  | .nilC, .nilC => true
  | .chan i, .chan i' => decide (i = i')
  | .fn f a, .fn f' b => decide (f = f') && AV.beqL a b
  | .nilF, .nilF => true
  | .nilI, .nilI => true
  | .agg a, .agg b => AV.beqL a b
  | .tup a, .tup b => AV.beqL a b
  | .junk, .junk => true
  | _, _ => false
def AV.beqL : List AV → List AV → Bool
  | [], [] => true
  | a :: l, b :: m => AV.beq a b && AV.beqL l m
  | _, _ => false
end
mutual
theorem AV.beq_eq : ∀ (a b : AV), AV.beq a b = true → a = b
  | .int k n, b, h => by cases b <;> simp_all [AV.beq]
  | .bool _, b, h => by cases b <;> simp_all [AV.beq]
  | .str _, b, h => by cases b <;> simp_all [AV.beq]
  | .nilP, b, h => by cases b <;> simp_all [AV.beq]
  | .ptr _ _, b, h => by cases b <;> simp_all [AV.beq]
  | .cptr l, b, h => by cases b <;> simp only [AV.beq, Bool.false_eq_true] at h; rw [AV.beqL_eq _ _ h]
  | .nilS, b, h => by cases b <;> simp_all [AV.beq]
  | .emp, b, h => by cases b <;> simp_all [AV.beq]
  | .nsl, b, h => by cases b <;> simp_all [AV.beq]
  | .sl _ _ _ _, b, h => by cases b <;> simp_all [AV.beq]
  | .slc _ _ _ _ _, b, h => by cases b <;> simp_all [AV.beq]
  | .csl l n, b, h => by cases b <;> simp only [AV.beq, Bool.false_eq_true, Bool.and_eq_true, decide_eq_true_eq] at h; rw [AV.beqL_eq _ _ h.1, h.2]
  | .csln l n, b, h => by cases b <;> simp only [AV.beq, Bool.false_eq_true, Bool.and_eq_true, decide_eq_true_eq] at h; rw [AV.beqL_eq _ _ h.1, h.2]
  | .nilM, b, h => by cases b <;> simp_all [AV.beq]
  | .map _, b, h => by cases b <;> simp_all [AV.beq]
  | .nilC, b, h => by cases b <;> simp_all [AV.beq]
  | .chan _, b, h => by cases b <;> simp_all [AV.beq]
  | .fn f l, b, h => by cases b <;> simp only [AV.beq, Bool.false_eq_true, Bool.and_eq_true, decide_eq_true_eq] at h; rw [AV.beqL_eq _ _ h.2, h.1]
  | .nilF, b, h => by cases b <;> simp_all [AV.beq]
  | .nilI, b, h => by cases b <;> simp_all [AV.beq]
  | .agg l, b, h => by cases b <;> simp only [AV.beq, Bool.false_eq_true] at h; rw [AV.beqL_eq _ _ h]
  | .tup l, b, h => by cases b <;> simp only [AV.beq, Bool.false_eq_true] at h; rw [AV.beqL_eq _ _ h]
  | .junk, b, h => by cases b <;> simp_all [AV.beq]
theorem AV.beqL_eq : ∀ (a b : List AV), AV.beqL a b = true → a = b
  | [], b, h => by cases b <;> simp_all [AV.beqL]
  | a :: l, b, h => by
    cases b with
    | nil => simp [AV.beqL] at h
    | cons b m =>
      simp only [AV.beqL, Bool.and_eq_true] at h
      rw [AV.beq_eq _ _ h.1, AV.beqL_eq _ _ h.2]
end
mutual
theorem AV.beq_refl : ∀ (a : AV), AV.beq a a = true
  | .int k n | .bool _ | .str _ | .nilP | .ptr _ _ | .nilS | .emp | .nsl | .sl _ _ _ _ | .slc _ _ _ _ _ | .nilM | .map _ | .nilC | .chan _ | .nilF | .nilI | .junk => by simp [AV.beq]
  | .cptr l => by simp only [AV.beq]; exact AV.beqL_refl l
  | .csl l n => by simp only [AV.beq, AV.beqL_refl l, decide_true, Bool.and_self]
  | .csln l n => by simp only [AV.beq, AV.beqL_refl l, decide_true, Bool.and_self]
  | .fn f l => by simp only [AV.beq, AV.beqL_refl l, decide_true, Bool.and_self]
  | .agg l => by simp only [AV.beq]; exact AV.beqL_refl l
  | .tup l => by simp only [AV.beq]; exact AV.beqL_refl l
theorem AV.beqL_refl : ∀ (a : List AV), AV.beqL a a = true
  | [] => by simp [AV.beqL]
  | a :: l => by simp only [AV.beqL, AV.beq_refl a, AV.beqL_refl l, Bool.and_self]
end

abbrev AV.undef : AV := .tup []

inductive AObj where
  | cells (cs : List AV)
  | map (es : List (AV × AV))
  | chan (cap : Nat) (buf : List AV)
  | dead
  deriving Inhabited

abbrev Store := List AObj
abbrev Frame := Nat → AV

def upd (g : Frame) (i : Nat) (v : AV) : Frame := fun j => if j = i then v else g j
theorem upd_apply (g : Frame) (i : Nat) (v : AV) (j : Nat) : upd g i v j = if j = i then v else g j := rfl

/-- operands -/
inductive AX where
  | l (i : Nat) | v (t : Nat) | k (v : AV)
  deriving Inhabited

def ev (g : Frame) (L : List AV) : AX → AV
  | .l i => L.getD i .undef
  | .v t => g t
  | .k v => v

/-- the cells of a value -/
def AV.cells : AV → List AV
  | .agg cs => cs
  | .tup _ => []
  | v => [v]

inductive AOp where
  | mv (x : AX)
  | pick (c a b : AX)
  | new (cs : List AV)
  | box (n : Nat) (x : AX)
  | build (zero : List AV) (parts : List (Nat × Nat × AX))
  | lit (sz : Nat) (len : Nat) (zero : List AV) (parts : List (Nat × Nat × AX))
  | load (agg : Bool) (n : Nat) (x : AX)
  | store (n : Nat) (x y : AX)
  | nilck (x : AX)
  | bin (op : BinOp) (x y : AX)
  | eqb (neg : Bool) (x y : AX)
  | eqn (neg : Bool) (cls : Nat) (x y : AX)
  | eqs (neg : Bool) (ks : List Nat) (x y : AX)
  | una (op : UnOp) (x : AX)
  | i2i (k : IntKind) (x : AX)
  | same (x : AX)
  | s2b (x : AX)
  | s2bf (x : AX)
  | mark (x : AX)
  | litn (sz : Nat) (len : Nat) (zero : List AV) (parts : List (Nat × Nat × AX))
  | litf (sz : Nat) (len : Nat) (zero : List AV) (parts : List (Nat × Nat × AX))
  | b2s (x : AX)
  | mkfn (f : Nat) (cap : List AX)
  | mkmap
  | mksl (sz bytes : Nat) (zero : List AV) (x y : AX)
  | slice (sz : Nat) (x : AX) (lo hi mx : Option AX)
  | slicex (sz : Nat) (x lo hi : AX)
  | sslice (x : AX) (lo hi : Option AX)
  | faddr (off : Nat) (x : AX)
  | field (agg : Bool) (off n : Nat) (x : AX)
  | iaddr (sz : Nat) (x i : AX)
  | aaddr (len sz : Nat) (x i : AX)
  | sidx (x i : AX)
  | look (kk : List Nat) (zero : AV) (ok : Bool) (x i : AX)
  | mapu (kk : List Nat) (x i y : AX)
  | ext (x : AX) (i : Nat)
  | len (str : Bool) (x : AX)
  | mlen (x : AX)
  | append (sz bytes : Nat) (x y : AX)
  | appz (sz bytes : Nat) (zero : List AV) (x y : AX)
  | clear (sz : Nat) (zero : List AV) (x : AX)
  | mx (gt : Bool) (xs : List AX)
  | call (f : Nat) (args : List AX)
  | callv (x : AX) (args : List AX)
  | fail
  deriving Inhabited

structure AIns where
  dst : Option Nat
  op : AOp
  guard : Option (Nat × Bool)
  deriving Inhabited

inductive ACode where
  | skip
  | region (ins : List AIns) (fl : List (Nat × Nat))
  | seq (a b : ACode)
  | cond (c : AX) (a b : ACode)
  | block (id : Nat) (c : ACode)
  | loop (c : ACode)
  | exit (id : Nat)
  | ret
  | fail
  deriving Inhabited

inductive AExit where
  | normal | exit (id : Nat) | ret
  deriving Inhabited

inductive ARes where
  | tmp (t : Nat) | cell (agg : Bool) (n : Nat) (t : Nat)
  deriving Inhabited

structure AFunc where
  np : Nat
  body : ACode
  res : List ARes
  deriving Inhabited

abbrev CallF := Nat → List AV → Store → Option (AV × Store)

/-! ### operations -/

def abin (op : BinOp) : AV → AV → Option AV
  | .int k a, .int k' b =>
    match op with
    | .shl => if b < 0 then none else some (.int k (k.wrap (a * 2 ^ (min b.toNat k.bits))))
    | .shr => if b < 0 then none else some (.int k (a.fdiv (2 ^ (min b.toNat k.bits))))
    | op => if k = k' then match op with
      | .add => some (.int k (k.wrap (a + b)))
      | .sub => some (.int k (k.wrap (a - b)))
      | .mul => some (.int k (k.wrap (a * b)))
      | .quo => if b = 0 then none else some (.int k (k.wrap (a.tdiv b)))
      | .rem => if b = 0 then none else some (.int k (a.tmod b))
      | .and => some (.int k (k.wrap (BitVec.ofInt k.bits a &&& BitVec.ofInt k.bits b).toNat))
      | .or => some (.int k (k.wrap (BitVec.ofInt k.bits a ||| BitVec.ofInt k.bits b).toNat))
      | .xor => some (.int k (k.wrap (BitVec.ofInt k.bits a ^^^ BitVec.ofInt k.bits b).toNat))
      | .andNot => some (.int k (k.wrap (BitVec.ofInt k.bits a &&& ~~~ BitVec.ofInt k.bits b).toNat))
      | .eql => some (.bool (decide (a = b)))
      | .neq => some (.bool (!decide (a = b)))
      | .lss => some (.bool (decide (a < b)))
      | .leq => some (.bool (decide (a ≤ b)))
      | .gtr => some (.bool (decide (b < a)))
      | .geq => some (.bool (decide (b ≤ a)))
      | _ => none
    else none
  | .str a, .str b =>
    match op with
    | .add => if a.length + b.length ≤ 140737488355328 then some (.str (a ++ b)) else none
    | .eql => some (.bool (decide (a = b)))
    | .neq => some (.bool (!decide (a = b)))
    | .lss => some (.bool (Op.bytesLess a b))
    | .leq => some (.bool (Op.bytesLess a b || decide (a = b)))
    | .gtr => some (.bool (!(Op.bytesLess a b || decide (a = b))))
    | .geq => some (.bool (!Op.bytesLess a b))
    | _ => none
  | _, _ => none

/-- is a value nil, of pointers (0), slices (1), maps (2), channels (3), functions (4)? -/
def isNil : Nat → AV → Option Bool
  | 0, .nilP => some true | 0, .ptr _ _ => some false | 0, .cptr _ => some false
  | 1, .nilS => some true | 1, .sl _ _ _ _ => some false | 1, .slc _ _ _ _ _ => some false | 1, .csl _ n => if n = 0 then none else some false
  | 1, .nsl => some false
  | 2, .nilM => some true | 2, .map _ => some false
  | 3, .nilC => some true | 3, .chan _ => some false
  | 4, .nilF => some true | 4, .fn _ _ => some false
  | _, _ => none

/-- are two scalars one? kinds: 0 whole numbers, 1 strings, 2 bools -/
def aeq1 : Nat → AV → AV → Option Bool
  | 0, .int k a, .int k' b => if k = k' then some (decide (a = b)) else none
  | 1, .str a, .str b => some (decide (a = b))
  | 2, .bool a, .bool b => some (a == b)
  | _, _, _ => none

def aeqs : List Nat → List AV → List AV → Option Bool
  | [], [], [] => some true
  | k :: ks, a :: xas, b :: bs => (aeq1 k a b).bind fun x => if x then aeqs ks xas bs else some false
  | _, _, _ => none

def auna (op : UnOp) : AV → Option AV
  | .int k n => match op with
    | .neg => some (.int k (k.wrap (0 - n)))
    | _ => none
  | .bool b => match op with
    | .not => some (.bool (!b))
    | _ => none
  | _ => none

/-- parts put into cells -/
def fillA (ev : AX → AV) : List AV → List (Nat × Nat × AX) → Option (List AV)
  | cs, [] => some cs
  | cs, (off, n, x) :: rest =>
    let v := (ev x).cells
    if v.length = n ∧ off + n ≤ cs.length then fillA ev (cs.take off ++ v ++ cs.drop (off + n)) rest else none

/-- what a slice's (or string's) elements are, as cells -/
def elems (S : Store) (sz : Nat) : AV → Option (List AV × Nat)
  | .nilS => some ([], 0)
  | .emp => some ([], 0)
  | .nsl => some ([], 0)
  | .csl cs n => if cs.length = n * sz then some (cs, n) else none
  | .sl id off n sz' => match S[id]? with
    | some (.cells cs) => if sz = sz' ∧ off + n * sz ≤ cs.length then some ((cs.drop off).take (n * sz), n) else none
    | _ => none
  | .slc id off n _ sz' => match S[id]? with
    | some (.cells cs) => if sz = sz' ∧ off + n * sz ≤ cs.length then some ((cs.drop off).take (n * sz), n) else none
    | _ => none
  | .str s => if sz = 1 then some (s.map fun c => .int .u8 c.toNat, s.length) else none
  | _ => none

def optInt (ev : AX → AV) (d : Int) : Option AX → Option Int
  | none => some d
  | some x => match ev x with
    | .int _ n => some n
    | _ => none

/-- are two keys one? kinds: [0] whole numbers, [1] strings, 3 :: ks structs of scalars -/
def keyEq : List Nat → AV → AV → Option Bool
  | [0], .int i a, .int j b => if i = j then some (decide (a = b)) else none
  | [1], .str a, .str b => some (decide (a = b))
  | 3 :: ks, .agg a, .agg b => if a.length = ks.length ∧ b.length = ks.length then aeqs ks a b else none
  | _, _, _ => none

/-- where a key stands among entries -/
def findA (kk : List Nat) (k : AV) : List (AV × AV) → Option (Option AV)
  | [] => some none
  | (k', v) :: es => (keyEq kk k k').bind fun t => if t then some (some v) else findA kk k es

def putA (kk : List Nat) (k v : AV) : List (AV × AV) → Option (List (AV × AV))
  | [] => some [(k, v)]
  | (k', v') :: es => (keyEq kk k k').bind fun t => if t then some ((k, v) :: es) else (putA kk k v es).map ((k', v') :: ·)

def keyOk : List Nat → AV → Bool
  | [0], .int _ _ => true
  | [1], .str _ => true
  | 3 :: ks, .agg a => a.length == ks.length
  | _, _ => false

def loadA (S : Store) (agg : Bool) (n : Nat) : AV → Option AV
  | .ptr id off => match S[id]? with
    | some (.cells cs) => if agg then if off + n ≤ cs.length then some (.agg ((cs.drop off).take n)) else none else cs[off]?
    | _ => none
  | .cptr cs => if agg then if n ≤ cs.length then some (.agg (cs.take n)) else none else cs[0]?
  | _ => none

def mxA (gt : Bool) : AV → List AV → Option AV
  | v, [] => some v
  | .int k x, .int _ y :: rest => mxA gt (.int k (if gt then (if y > x then y else x) else (if y < x then y else x))) rest
  | _, _ => none

def evs (ev : AX → AV) : List AX → List AV
  | [] => []
  | x :: xs => ev x :: evs ev xs

def asBytes : List AV → Option (List UInt8)
  | [] => some []
  | .int .u8 n :: rest => if 0 ≤ n ∧ n < 256 then (asBytes rest).map (UInt8.ofNat n.toNat :: ·) else none
  | _ => none

/-- a row with more behind it -/
def appTo (S : Store) (sz bytes : Nat) (ys : List AV) (m : Nat) (x : AV) : Option (AV × Store) :=
    match x with
    | .nilS => if m = 0 then some (.nilS, S) else
        if m * bytes ≤ 140737488355328 then some (.sl S.length 0 m sz, S ++ [.cells ys]) else none
    | .emp => if m = 0 then some (.emp, S) else
        if m * bytes ≤ 140737488355328 then some (.sl S.length 0 m sz, S ++ [.cells ys]) else none
    | .csl cs n => if m = 0 then some (.csl cs n, S) else none
    | .nsl => if m = 0 then some (.nsl, S) else none
    | .sl id off n sz' => match S[id]? with
      | some (.cells cs) =>
        if sz = sz' then
          if off + (n + m) * sz ≤ cs.length then
            some (.sl id off (n + m) sz, S.set id (.cells (cs.take (off + n * sz) ++ ys ++ cs.drop (off + (n + m) * sz))))
          else if off + n * sz = cs.length ∧ (n + m) * bytes ≤ 140737488355328 then
            some (.sl S.length 0 (n + m) sz, (S.set id .dead) ++ [.cells (cs.drop off ++ ys)])
          else none
        else none
      | _ => none
    | .slc id off n c sz' => match S[id]? with
      | some (.cells cs) =>
        if sz = sz' ∧ off + c * sz ≤ cs.length then
          if n + m ≤ c then
            some (.slc id off (n + m) c sz, S.set id (.cells (cs.take (off + n * sz) ++ ys ++ cs.drop (off + (n + m) * sz))))
          else if (n + m) * bytes ≤ 140737488355328 then
            some (.sl S.length 0 (n + m) sz, S ++ [.cells ((cs.drop off).take (n * sz) ++ ys)])
          else none
        else none
      | _ => none
    | _ => none


def aop (cf : CallF) (S : Store) (ev : AX → AV) : AOp → Option (AV × Store)
  | .mv x => some (ev x, S)
  | .pick c a b => match ev c with
    | .bool t => some (if t then ev a else ev b, S)
    | _ => none
  | .new cs => some (.ptr S.length 0, S ++ [.cells cs])
  | .box n x => if (ev x).cells.length = n then some (.ptr S.length 0, S ++ [.cells (ev x).cells]) else none
  | .build zero parts => (fillA ev zero parts).map fun cs => (.agg cs, S)
  | .lit sz len zero parts => if len * sz = zero.length then (fillA ev zero parts).map fun cs => (.sl S.length 0 len sz, S ++ [.cells cs]) else none
  | .load agg n x => (loadA S agg n (ev x)).map fun v => (v, S)
  | .store n x y => match ev x with
    | .ptr id off => match S[id]? with
      | some (.cells cs) =>
        if (ev y).cells.length = n ∧ off + n ≤ cs.length then some (.undef, S.set id (.cells (cs.take off ++ (ev y).cells ++ cs.drop (off + n)))) else none
      | _ => none
    | _ => none
  | .nilck x => match ev x with
    | .ptr id off => some (.ptr id off, S)
    | .cptr cs => some (.cptr cs, S)
    | .fn f cap => some (.fn f cap, S)
    | _ => none
  | .bin op x y => (abin op (ev x) (ev y)).map fun v => (v, S)
  | .eqb neg x y => match ev x, ev y with
    | .bool a, .bool b => some (.bool (if neg then a != b else a == b), S)
    | _, _ => none
  | .eqn neg cls x y => match isNil cls (ev x), isNil cls (ev y) with
    | some a, some true => some (.bool (if neg then !a else a), S)
    | _, _ => none
  | .eqs neg ks x y => match ev x, ev y with
    | .agg a, .agg b => if a.length = ks.length ∧ b.length = ks.length then (aeqs ks a b).map fun t => (.bool (if neg then !t else t), S) else none
    | _, _ => none
  | .una op x => (auna op (ev x)).map fun v => (v, S)
  | .i2i k x => match ev x with
    | .int _ n => some (.int k (k.wrap n), S)
    | _ => none
  | .same x => match ev x with
    | .str s => some (.str s, S)
    | _ => none
  | .s2b x => match ev x with
    | .str s => if s.length ≤ 140737488355328 then some (.sl S.length 0 s.length 1, S ++ [.cells (s.map fun c => .int .u8 c.toNat)]) else none
    | _ => none
  | .s2bf x => match ev x with
    | .str s => if s.length ≤ 140737488355328 then some (.csl (s.map fun c => .int .u8 c.toNat) s.length, S) else none
    | _ => none
  | .mark x => match ev x with
    | .csln cs n => if cs.length = 0 then none else some (.csl cs n, S)
    | _ => none
  | .litn sz len zero parts => if len * sz = zero.length then (fillA ev zero parts).map fun cs => (.csln cs len, S) else none
  | .litf sz len zero parts => if len * sz = zero.length then (fillA ev zero parts).map fun cs => (.csl cs len, S) else none
  | .b2s x => (match ev x with | .str _ => none | y => elems S 1 y).bind fun (p : List AV × Nat) =>
      (asBytes p.1).map fun s => (.str s, S)
  | .mkfn f cap => some (.fn f (evs ev cap), S)
  | .mkmap => some (.map S.length, S ++ [.map []])
  | .mksl sz bytes zero x y => match ev x, ev y with
    | .int .i64 n, .int .i64 m => if n = m ∧ 0 ≤ n ∧ n * bytes ≤ 140737488355328 ∧ zero.length = sz then
        some (.sl S.length 0 n.toNat sz, S ++ [.cells (List.replicate n.toNat zero).flatten]) else none
    | _, _ => none
  | .slice sz x lo hi mx => match ev x with
    | .nilS => (optInt ev 0 lo).bind fun l => (optInt ev 0 hi).bind fun h => (optInt ev 0 mx).bind fun m => if l = 0 ∧ h = 0 ∧ m = 0 ∧ (mx.isNone ∨ hi.isSome) then some (.nilS, S) else none
    | .emp => (optInt ev 0 lo).bind fun l => (optInt ev 0 hi).bind fun h => (optInt ev 0 mx).bind fun m => if l = 0 ∧ h = 0 ∧ m = 0 ∧ (mx.isNone ∨ hi.isSome) then some (.emp, S) else none
    | .nsl => (optInt ev 0 lo).bind fun l => (optInt ev 0 hi).bind fun h => (optInt ev 0 mx).bind fun m => if l = 0 ∧ h = 0 ∧ m = 0 ∧ (mx.isNone ∨ hi.isSome) then some (if mx.isSome then .emp else .csl [] 0, S) else none
    | .csl cs n => (optInt ev 0 lo).bind fun l => (optInt ev n hi).bind fun h => (optInt ev n mx).bind fun m =>
        if 0 ≤ l ∧ l ≤ h ∧ h ≤ m ∧ m ≤ n ∧ (mx.isNone ∨ hi.isSome) then some (if mx.isSome ∧ m = l then .emp else .csl ((cs.drop (l.toNat * sz)).take ((h.toNat - l.toNat) * sz)) (h.toNat - l.toNat), S) else none
    | .sl id off n sz' => (optInt ev 0 lo).bind fun l => (optInt ev n hi).bind fun h => (optInt ev n mx).bind fun m =>
        if sz = sz' ∧ 0 ≤ l ∧ l ≤ h ∧ h ≤ m ∧ m ≤ n ∧ (mx.isNone ∨ hi.isSome) then
          some (if mx.isNone then .sl id (off + l.toNat * sz) (h.toNat - l.toNat) sz else .slc id (off + l.toNat * sz) (h.toNat - l.toNat) (m.toNat - l.toNat) sz, S) else none
    | .slc id off n c sz' => (optInt ev 0 lo).bind fun l => (optInt ev n hi).bind fun h => (optInt ev c mx).bind fun m =>
        if sz = sz' ∧ 0 ≤ l ∧ l ≤ h ∧ h ≤ m ∧ m ≤ c ∧ (mx.isNone ∨ hi.isSome) then
          some (.slc id (off + l.toNat * sz) (h.toNat - l.toNat) (m.toNat - l.toNat) sz, S) else none
    | _ => none
  | .slicex sz x lo hi => match ev x, ev lo, ev hi with
    | .sl id off _ sz', .int _ l, .int _ h => match S[id]? with
      | some (.cells cs) => if sz = sz' ∧ 0 ≤ l ∧ l ≤ h ∧ off + h.toNat * sz ≤ cs.length then some (.sl id (off + l.toNat * sz) (h.toNat - l.toNat) sz, S) else none
      | _ => none
    | _, _, _ => none
  | .sslice x lo hi => match ev x with
    | .str s => (optInt ev 0 lo).bind fun l => (optInt ev s.length hi).bind fun h =>
        if 0 ≤ l ∧ l ≤ h ∧ h ≤ s.length then some (.str ((s.drop l.toNat).take (h.toNat - l.toNat)), S) else none
    | _ => none
  | .faddr off x => match ev x with
    | .ptr id o => some (.ptr id (o + off), S)
    | .cptr cs => some (.cptr (cs.drop off), S)
    | _ => none
  | .field agg off n x => match ev x with
    | .agg cs => if off + n ≤ cs.length then
        if agg then some (.agg ((cs.drop off).take n), S) else (cs[off]?).map fun v => (v, S) else none
    | _ => none
  | .iaddr sz x i => match ev x, ev i with
    | .csl cs n, .int _ j => if 0 ≤ j ∧ j < n then some (.cptr (cs.drop (j.toNat * sz)), S) else none
    | .sl id off n sz', .int _ j => if 0 ≤ j ∧ j < n ∧ sz = sz' then some (.ptr id (off + j.toNat * sz), S) else none
    | .slc id off n _ sz', .int _ j => if 0 ≤ j ∧ j < n ∧ sz = sz' then some (.ptr id (off + j.toNat * sz), S) else none
    | _, _ => none
  | .aaddr len sz x i => match ev x, ev i with
    | .cptr cs, .int _ j => if 0 ≤ j ∧ j < len then some (.cptr (cs.drop (j.toNat * sz)), S) else none
    | .ptr id off, .int _ j => if 0 ≤ j ∧ j < len then some (.ptr id (off + j.toNat * sz), S) else none
    | _, _ => none
  | .sidx x i => match ev x, ev i with
    | .str s, .int _ j => if 0 ≤ j then (s[j.toNat]?).map fun c => (.int .u8 c.toNat, S) else none
    | _, _ => none
  | .look kk zero ok x i => match ev x with
    | .nilM => if keyOk kk (ev i) then some (if ok then .tup [zero, .bool false] else zero, S) else none
    | .map id => match S[id]? with
      | some (.map es) => if keyOk kk (ev i) then (findA kk (ev i) es).map fun r => match r with
        | some v => (if ok then .tup [v, .bool true] else v, S)
        | none => (if ok then .tup [zero, .bool false] else zero, S) else none
      | _ => none
    | _ => none
  | .mapu kk x i y => match ev x with
    | .map id => match S[id]? with
      | some (.map es) => if keyOk kk (ev i) then (putA kk (ev i) (ev y) es).map fun es' => (.undef, S.set id (.map es')) else none
      | _ => none
    | _ => none
  | .ext x i => match ev x with
    | .tup vs => (vs[i]?).map fun v => (v, S)
    | _ => none
  | .len b x => match b, ev x with
    | true, .str s => some (.int .i64 s.length, S)
    | false, .nilS => some (.int .i64 0, S)
    | false, .emp => some (.int .i64 0, S)
    | false, .nsl => some (.int .i64 0, S)
    | false, .csl _ n => some (.int .i64 n, S)
    | false, .sl _ _ n _ => some (.int .i64 n, S)
    | false, .slc _ _ n _ _ => some (.int .i64 n, S)
    | _, _ => none
  | .mlen x => match ev x with
    | .nilM => some (.int .i64 0, S)
    | .map id => match S[id]? with
      | some (.map es) => some (.int .i64 es.length, S)
      | _ => none
    | _ => none
  | .append sz bytes x y => (elems S sz (ev y)).bind fun (ys, m) =>
    match ev x with
    | .nilS => if m = 0 then some (.nilS, S) else
        if m * bytes ≤ 140737488355328 then some (.sl S.length 0 m sz, S ++ [.cells ys]) else none
    | .emp => if m = 0 then some (.emp, S) else
        if m * bytes ≤ 140737488355328 then some (.sl S.length 0 m sz, S ++ [.cells ys]) else none
    | .csl cs n => if m = 0 then some (.csl cs n, S) else none
    | .nsl => if m = 0 then some (.nsl, S) else none
    | .sl id off n sz' => match S[id]? with
      | some (.cells cs) =>
        if sz = sz' then
          if off + (n + m) * sz ≤ cs.length then
            some (.sl id off (n + m) sz, S.set id (.cells (cs.take (off + n * sz) ++ ys ++ cs.drop (off + (n + m) * sz))))
          else if off + n * sz = cs.length ∧ (n + m) * bytes ≤ 140737488355328 then
            some (.sl S.length 0 (n + m) sz, (S.set id .dead) ++ [.cells (cs.drop off ++ ys)])
          else none
        else none
      | _ => none
    | .slc id off n c sz' => match S[id]? with
      | some (.cells cs) =>
        if sz = sz' ∧ off + c * sz ≤ cs.length then
          if n + m ≤ c then
            some (.slc id off (n + m) c sz, S.set id (.cells (cs.take (off + n * sz) ++ ys ++ cs.drop (off + (n + m) * sz))))
          else if (n + m) * bytes ≤ 140737488355328 then
            some (.sl S.length 0 (n + m) sz, S ++ [.cells ((cs.drop off).take (n * sz) ++ ys)])
          else none
        else none
      | _ => none
    | _ => none
  | .appz sz bytes zero x y => match ev y with
    | .int .i64 m => if 0 ≤ m ∧ zero.length = sz ∧ m * bytes ≤ 140737488355328 then appTo S sz bytes (List.replicate m.toNat zero).flatten m.toNat (ev x) else none
    | _ => none
  | .clear sz zero x => match ev x with
    | .nilS => some (.undef, S)
    | .emp => some (.undef, S)
    | .nsl => some (.undef, S)
    | .csl _ n => if n = 0 then some (.undef, S) else none
    | .sl id off n sz' => match S[id]? with
      | some (.cells cs) => if sz = sz' ∧ zero.length = sz ∧ off + n * sz ≤ cs.length then
          some (.undef, S.set id (.cells (cs.take off ++ (List.replicate n zero).flatten ++ cs.drop (off + n * sz)))) else none
      | _ => none
    | _ => none
  | .mx gt xs => match evs ev xs with
    | v :: vs => (mxA gt v vs).map fun v => (v, S)
    | [] => none
  | .call f args => cf f (evs ev args) S
  | .callv x args => match ev x with
    | .fn f cap => cf f (evs ev args ++ cap) S
    | _ => none
  | .fail => none

/-! ### code -/

/-- the instructions of a region, in the text's order; what stood before each -/
def ains (cf : CallF) : Frame → Store → List AV → List AIns → Option (Frame × Store × List AV)
  | g, S, L, [] => some (g, S, L)
  | g, S, L, i :: rest =>
    let go (v : AV) (S' : Store) := ains cf (match i.dst with | some t => upd g t v | none => g) S' (L ++ [v]) rest
    match i.guard with
    | none => (aop cf S (ev g L) i.op).bind fun (v, S') => go v S'
    | some (j, b) => match L.getD j .undef with
      | .bool t => if t = b then (aop cf S (ev g L) i.op).bind fun (v, S') => go v S' else go .undef S
      | .tup _ => go .undef S
      | _ => none

/-- is an instruction wanted? -/
def wantA (i : AIns) (L : List AV) : Option Bool :=
  match i.guard with
  | none => some true
  | some (j, b) => match L.getD j .undef with
    | .bool t => some (decide (t = b))
    | .tup _ => some false
    | _ => none

/-- the store after k instructions -/
def storeAt (cf : CallF) (g : Frame) (S : Store) (ins : List AIns) (k : Nat) : Option (Frame × Store × List AV) := ains cf g S [] (ins.take k)

/-- a load that may come up on either side of an event: the same value on both -/
def floats (cf : CallF) (g : Frame) (S : Store) (ins : List AIns) : List (Nat × Nat) → Bool
  | [] => true
  | (i, j) :: rest =>
    (match ins[i]?, storeAt cf g S ins i, storeAt cf g S ins (if i < j then j + 1 else j), storeAt cf g S ins (i + 1) with
     | some o, some (gi, _, Li), some (_, Sj, _), some (_, _, Lv) =>
       if wantA o Li = some false then true else
       match aop cf Sj (ev gi Li) o.op with
       | some (v, _) => AV.beq v (Lv.getD i .undef)
       | none => false
     | _, _, _, _ => false) && floats cf g S ins rest

def loopA (body : Frame → Store → Option (AExit × Frame × Store)) : Nat → Frame → Store → Option (AExit × Frame × Store)
  | 0, _, _ => none
  | n + 1, g, S => match body g S with
    | some (.normal, g', S') => loopA body n g' S'
    | r => r

def exec (cf : CallF) (n : Nat) : ACode → Frame → Store → Option (AExit × Frame × Store)
  | .skip, g, S => some (.normal, g, S)
  | .region ins fl, g, S => match ains cf g S [] ins with
    | some (g', S', _) => if floats cf g S ins fl then some (.normal, g', S') else none
    | none => none
  | .seq a b, g, S => match exec cf n a g S with
    | some (.normal, g', S') => exec cf n b g' S'
    | r => r
  | .cond c a b, g, S => match ev g [] c with
    | .bool true => exec cf n a g S
    | .bool false => exec cf n b g S
    | _ => none
  | .block id c, g, S => match exec cf n c g S with
    | some (.exit i, g', S') => if i = id then some (.normal, g', S') else some (.exit i, g', S')
    | r => r
  | .loop c, g, S => loopA (exec cf n c) n g S
  | .exit id, g, S => some (.exit id, g, S)
  | .ret, g, S => some (.ret, g, S)
  | .fail, _, _ => none

def resA (g : Frame) (S : Store) : List ARes → Option (List AV)
  | [] => some []
  | .tmp t :: rest => (resA g S rest).map (g t :: ·)
  | .cell agg n t :: rest => (loadA S agg n (g t)).bind fun v => (resA g S rest).map (v :: ·)

def oneOrTup : List AV → AV
  | [v] => v
  | vs => .tup vs

def initA (args : List AV) : Frame := fun i => args.getD i .undef

/-- what is told of functions: their code, or what they do (a primitive one) -/
structure Env where
  F : Nat → Option AFunc
  prim : Nat → Option (CallF → List AV → Store → Option (AV × Store))

def run (E : Env) : Nat → CallF
  | 0, _, _, _ => none
  | n + 1, f, args, S => match E.prim f with
    | some p => p (run E n) args S
    | none => match E.F f with
      | some fn => if args.length = fn.np then match exec (run E n) (n + 1) fn.body (initA args) S with
        | some (.exit _, _, _) => none
        | some (_, g, S') => (resA g S' fn.res).map fun vs => (oneOrTup vs, S')
        | none => none else none
      | none => none

end Go.Proofs.YtaajlbbooneiiaaDoor.Avm
set_option linter.unusedVariables false
set_option linter.unusedSimpArgs false
set_option linter.unusedSectionVars false
namespace Go.Proofs.YtaajlbbooneiiaaDoor.Avm

universe u
/-- a mark that keeps its value from being looked into -/
inductive Dm {α : Sort u} (a : α) : Type | mk

/-- a call comes back with just this -/
def Is (E : Env) (f : Nat) (args : List AV) (S : Store) (v : AV) (S' : Store) : Prop := ∃ N, ∀ n, N ≤ n → run E n f args S = some (v, S')
/-- a call comes back with such -/
def Sp (E : Env) (f : Nat) (args : List AV) (S : Store) (R : AV → Store → Prop) : Prop := ∃ v S', R v S' ∧ Is E f args S v S'
theorem Sp.of {E : Env} {f : Nat} {args : List AV} {S : Store} {R K : AV → Store → Prop} (h : Sp E f args S R) (hk : ∀ v S', R v S' → K v S') : Sp E f args S K :=
  let ⟨v, S', r, i⟩ := h; ⟨v, S', hk v S' r, i⟩
theorem Is.uniq {E : Env} {f : Nat} {args : List AV} {S S1 S2 : Store} {v1 v2 : AV} (h1 : Is E f args S v1 S1) (h2 : Is E f args S v2 S2) : v1 = v2 ∧ S1 = S2 := by
  obtain ⟨N, h⟩ := h1
  obtain ⟨M, k⟩ := h2
  have := h (max N M) (Nat.le_max_left ..)
  rw [k (max N M) (Nat.le_max_right ..)] at this
  cases this; exact ⟨rfl, rfl⟩
theorem Is.sp {E : Env} {f : Nat} {args : List AV} {S : Store} {v : AV} {S' : Store} (h : Is E f args S v S') (K : AV → Store → Prop) : Sp E f args S K = K v S' :=
  propext ⟨fun ⟨_, _, r, i⟩ => by obtain ⟨rfl, rfl⟩ := h.uniq i; exact r, fun k => ⟨v, S', k, h⟩⟩
theorem Is.of {E : Env} {f : Nat} {args : List AV} {S : Store} {v : AV} {S' : Store} (h : Sp E f args S fun v' T => v' = v ∧ T = S') : Is E f args S v S' := by
  obtain ⟨_, _, ⟨rfl, rfl⟩, i⟩ := h; exact i

def SpD (E : Env) (f : Nat) (args : List AV) (S : Store) (K : AV → Store → Prop) (_ : Dm K) : Prop := Sp E f args S K
theorem Is.spD {E : Env} {f : Nat} {args : List AV} {S : Store} {v : AV} {S' : Store} (h : Is E f args S v S') (K : AV → Store → Prop) (d : Dm K) : SpD E f args S K d = K v S' := h.sp K
theorem Sp.ofD {E : Env} {f : Nat} {args : List AV} {S : Store} {R K : AV → Store → Prop} {d : Dm K} (h : Sp E f args S R) (hk : ∀ v S', R v S' → K v S') : SpD E f args S K d := h.of hk
/-- a choice whose branches wait -/
def cnd (t : Bool) (A B : Prop) (_ : Dm A) (_ : Dm B) : Prop := if t = true then A else B
theorem cnd_true (A B : Prop) (a : Dm A) (b : Dm B) : cnd true A B a b = A := rfl
theorem cnd_false (A B : Prop) (a : Dm A) (b : Dm B) : cnd false A B a b = B := by simp [cnd]
theorem cnd_intro {t : Bool} {A B : Prop} {a : Dm A} {b : Dm B} (h1 : t = true → A) (h2 : t = false → B) : cnd t A B a b := by cases t <;> simp [cnd, *]

/-- an operation that is no call -/
def aop0 (S : Store) (e : AX → AV) (op : AOp) : Option (AV × Store) := aop (fun _ _ _ => none) S e op
/-- goes on with what was given -/
def thn (r : Option (AV × Store)) (K : AV → Store → Prop) (_ : Dm K) : Prop := match r with | some (v, S) => K v S | none => False
theorem thn_some (v : AV) (S : Store) (K : AV → Store → Prop) (d : Dm K) : thn (some (v, S)) K d = K v S := rfl
theorem thn_ite {c : Prop} [Decidable c] {a b : Option (AV × Store)} {K : AV → Store → Prop} {d : Dm K} (h : c) (k : thn a K d) : thn (if c then a else b) K d := by rw [if_pos h]; exact k

/-- a choice by a value -/
def byV (x : AV) (b : Bool) (A B : Prop) (p : Dm A) (q : Dm B) : Prop := match x with | .bool t => cnd (t == b) A B p q | .tup _ => B | _ => False
theorem byV_bool (t b : Bool) (A B : Prop) (p : Dm A) (q : Dm B) : byV (.bool t) b A B p q = cnd (t == b) A B p q := rfl
theorem byV_tup (vs : List AV) (b : Bool) (A B : Prop) (p : Dm A) (q : Dm B) : byV (.tup vs) b A B p q = B := rfl
def ifV (x : AV) (A B : Prop) (p : Dm A) (q : Dm B) : Prop := match x with | .bool t => cnd t A B p q | _ => False
theorem ifV_bool (t : Bool) (A B : Prop) (p : Dm A) (q : Dm B) : ifV (.bool t) A B p q = cnd t A B p q := rfl
def callV (E : Env) (x : AV) (args : List AV) (S : Store) (K : AV → Store → Prop) (d : Dm K) : Prop := match x with | .fn f cap => SpD E f (args ++ cap) S K d | _ => False
theorem callV_fn (E : Env) (f : Nat) (cap args : List AV) (S : Store) (K : AV → Store → Prop) (d : Dm K) : callV E (.fn f cap) args S K d = SpD E f (args ++ cap) S K d := rfl
def thnR (r : Option (List AV)) (K : List AV → Prop) (_ : Dm K) : Prop := match r with | some vs => K vs | none => False
theorem thnR_some (vs : List AV) (K : List AV → Prop) (d : Dm K) : thnR (some vs) K d = K vs := rfl

def wpO (E : Env) (op : AOp) (g : Frame) (S : Store) (L : List AV) (K : AV → Store → Prop) (d : Dm K) : Prop :=
  match op with
  | .call f args => SpD E f (evs (ev g L) args) S K d
  | .callv x args => callV E (ev g L x) (evs (ev g L) args) S K d
  | op => thn (aop0 S (ev g L) op) K d
def setD (g : Frame) (d : Option Nat) (v : AV) : Frame := match d with | some t => upd g t v | none => g
def wpG (gd : Option (Nat × Bool)) (L : List AV) (A B : Prop) (p : Dm A) (q : Dm B) : Prop :=
  match gd with
  | none => A
  | some (j, b) => byV (L.getD j .undef) b A B p q
def wpI (E : Env) : List AIns → Frame → Store → List AV → (Q : Frame → Store → List AV → Prop) → Dm Q → Prop
  | [], g, S, L, Q, _ => Q g S L
  | ⟨none, op, gd⟩ :: rest, g, S, L, Q, d => wpG gd L (wpO E op g S L (fun v S' => wpI E rest g S' (L ++ [v]) Q d) .mk) (wpI E rest g S (L ++ [.undef]) Q d) .mk .mk
  | ⟨some t, op, gd⟩ :: rest, g, S, L, Q, d => wpG gd L (wpO E op g S L (fun v S' => wpI E rest (upd g t v) S' (L ++ [v]) Q d) .mk) (wpI E rest (upd g t .undef) S (L ++ [.undef]) Q d) .mk .mk
theorem wpI_cons {E : Env} {i : AIns} {rest : List AIns} {g : Frame} {S : Store} {L : List AV} {Q : Frame → Store → List AV → Prop} {d : Dm Q} (h : wpI E (i :: rest) g S L Q d) :
    wpG i.guard L (wpO E i.op g S L (fun v S' => wpI E rest (setD g i.dst v) S' (L ++ [v]) Q d) .mk) (wpI E rest (setD g i.dst .undef) S (L ++ [.undef]) Q d) .mk .mk := by
  obtain ⟨dst, op, gd⟩ := i
  cases dst <;> exact h

/-- a code comes to such an end -/
def Ex (E : Env) (c : ACode) (g : Frame) (S : Store) (Q : AExit → Frame → Store → Prop) : Prop :=
  ∃ ex g' S', Q ex g' S' ∧ ∃ N, ∀ n m, N ≤ n → N ≤ m → exec (run E m) n c g S = some (ex, g', S')
/-- a region whose loads may float -/
def ExF (E : Env) (ins : List AIns) (fl : List (Nat × Nat)) (g : Frame) (S : Store) (Q : AExit → Frame → Store → Prop) (_ : Dm Q) : Prop :=
  Ex E (.region ins fl) g S Q
def ExL (E : Env) (c : ACode) (g : Frame) (S : Store) (Q : AExit → Frame → Store → Prop) (_ : Dm Q) : Prop := Ex E (.loop c) g S Q

def wpC (E : Env) : ACode → Frame → Store → (Q : AExit → Frame → Store → Prop) → Dm Q → Prop
  | .skip, g, S, Q, _ => Q .normal g S
  | .region ins fl, g, S, Q, d => match fl with
    | [] => wpI E ins g S [] (fun g' S' _ => Q .normal g' S') .mk
    | fl => ExF E ins fl g S Q d
  | .seq a b, g, S, Q, d => wpC E a g S (fun ex g' S' => match ex with | .normal => wpC E b g' S' Q d | ex => Q ex g' S') .mk
  | .cond c a b, g, S, Q, d => ifV (ev g [] c) (wpC E a g S Q d) (wpC E b g S Q d) .mk .mk
  | .block id c, g, S, Q, d => wpC E c g S (fun ex g' S' => match ex with | .exit i => if i = id then Q .normal g' S' else Q (.exit i) g' S' | ex => Q ex g' S') .mk
  | .loop c, g, S, Q, d => ExL E c g S Q d
  | .exit id, g, S, Q, _ => Q (.exit id) g S
  | .ret, g, S, Q, _ => Q .ret g S
  | .fail, _, _, _, _ => False

/-! ### the walk is right -/
theorem aop_of0 {cf : CallF} {S : Store} {e : AX → AV} {op : AOp} (h1 : ∀ f a, op ≠ .call f a) (h2 : ∀ x a, op ≠ .callv x a) : aop cf S e op = aop0 S e op := by
  unfold aop0
  cases op <;> first | rfl | exact absurd rfl (h1 _ _) | exact absurd rfl (h2 _ _)

theorem thn_spec {r : Option (AV × Store)} {K : AV → Store → Prop} {d : Dm K} (h : thn r K d) : ∃ v S', r = some (v, S') ∧ K v S' := by
  unfold thn at h
  split at h
  · exact ⟨_, _, rfl, h⟩
  · exact h.elim

theorem wpO_spec {E : Env} {op : AOp} {g : Frame} {S : Store} {L : List AV} {K : AV → Store → Prop} {d : Dm K} (h : wpO E op g S L K d) : ∃ v S', K v S' ∧ ∃ N, ∀ n, N ≤ n → aop (run E n) S (ev g L) op = some (v, S') := by
  unfold wpO at h
  split at h
  · obtain ⟨v, S', r, N, i⟩ := h
    exact ⟨v, S', r, N, fun n hn => i n hn⟩
  · rename_i x args
    unfold callV at h
    split at h
    · rename_i f cap he
      obtain ⟨v, S', r, N, i⟩ := h
      exact ⟨v, S', r, N, fun n hn => by simp only [aop, he]; exact i n hn⟩
    · exact h.elim
  · rename_i h1 h2
    obtain ⟨v, S', e, k⟩ := thn_spec h
    exact ⟨v, S', k, 0, fun n _ => by rw [aop_of0 (fun f a e => h1 f a e) fun x a e => h2 x a e, e]⟩

theorem wpI_spec {E : Env} : ∀ {ins : List AIns} {g : Frame} {S : Store} {L : List AV} {Q : Frame → Store → List AV → Prop} {d : Dm Q}, wpI E ins g S L Q d → ∃ g' S' L', Q g' S' L' ∧ ∃ N, ∀ n, N ≤ n → ains (run E n) g S L ins = some (g', S', L')
  | [], g, S, L, Q, d, h => ⟨g, S, L, h, 0, fun n _ => rfl⟩
  | i :: ins, g, S, L, Q, d, h => by
    have h := wpI_cons h
    simp only [wpG] at h
    have go : wpO E i.op g S L (fun v S' => wpI E ins (setD g i.dst v) S' (L ++ [v]) Q d) .mk → ∃ g' S' L', Q g' S' L' ∧ ∃ N, ∀ n, N ≤ n → ((aop (run E n) S (ev g L) i.op).bind fun (p : AV × Store) => ains (run E n) (setD g i.dst p.1) p.2 (L ++ [p.1]) ins) = some (g', S', L') := fun h => by
      obtain ⟨v, S1, k, N, hN⟩ := wpO_spec h
      obtain ⟨g', S', L', q, M, hM⟩ := wpI_spec k
      exact ⟨g', S', L', q, max N M, fun n hn => by rw [hN n (by omega)]; exact hM n (by omega)⟩
    split at h
    · rename_i hg
      obtain ⟨g', S', L', q, N, hN⟩ := go h
      exact ⟨g', S', L', q, N, fun n hn => by simp only [ains, hg]; exact hN n hn⟩
    · rename_i j b hg
      unfold byV at h
      split at h
      · rename_i t ht
        unfold cnd at h
        split at h
        · rename_i htb
          have htb : t = b := by simpa using htb
          obtain ⟨g', S', L', q, N, hN⟩ := go h
          exact ⟨g', S', L', q, N, fun n hn => by simp only [ains, hg, ht, htb, if_true]; exact hN n hn⟩
        · rename_i htb
          have htb : ¬ t = b := by simpa using htb
          obtain ⟨g', S', L', q, N, hN⟩ := wpI_spec h
          exact ⟨g', S', L', q, N, fun n hn => by simp only [ains, hg, ht, if_neg htb]; exact hN n hn⟩
      · rename_i vs ht
        obtain ⟨g', S', L', q, N, hN⟩ := wpI_spec h
        exact ⟨g', S', L', q, N, fun n hn => by simp only [ains, hg, ht]; exact hN n hn⟩
      · exact h.elim

theorem wpC_spec {E : Env} : ∀ {c : ACode} {g : Frame} {S : Store} {Q : AExit → Frame → Store → Prop} {d : Dm Q}, wpC E c g S Q d → Ex E c g S Q := by
  intro c
  induction c with
  | skip => intro g S Q d h; exact ⟨_, g, S, h, 0, fun n m _ _ => rfl⟩
  | region ins fl =>
    intro g S Q d h
    cases fl with
    | nil =>
      obtain ⟨g', S', L', q, N, hN⟩ := wpI_spec (show wpI E ins g S [] (fun g' S' _ => Q .normal g' S') .mk from h)
      exact ⟨_, g', S', q, N, fun n m _ hm => by simp only [exec, hN m hm, floats, if_true]⟩
    | cons p fl => exact h
  | seq a b iha ihb =>
    intro g S Q d h
    obtain ⟨ex, g1, S1, q, N, hN⟩ := iha (show wpC E a g S (fun ex g' S' => match ex with | .normal => wpC E b g' S' Q d | ex => Q ex g' S') .mk from h)
    cases ex with
    | normal =>
      obtain ⟨ex2, g2, S2, q2, M, hM⟩ := ihb q
      exact ⟨ex2, g2, S2, q2, max N M, fun n m hn hm => by simp only [exec, hN n m (by omega) (by omega)]; exact hM n m (by omega) (by omega)⟩
    | exit id => exact ⟨_, g1, S1, q, N, fun n m hn hm => by simp only [exec, hN n m hn hm]⟩
    | ret => exact ⟨_, g1, S1, q, N, fun n m hn hm => by simp only [exec, hN n m hn hm]⟩
  | cond c a b iha ihb =>
    intro g S Q d h
    simp only [wpC, ifV] at h
    split at h
    · rename_i t ht
      cases t with
      | true =>
        rw [cnd_true] at h
        obtain ⟨ex, g1, S1, q, N, hN⟩ := iha h
        exact ⟨ex, g1, S1, q, N, fun n m hn hm => by simp only [exec, ht]; exact hN n m hn hm⟩
      | false =>
        rw [cnd_false] at h
        obtain ⟨ex, g1, S1, q, N, hN⟩ := ihb h
        exact ⟨ex, g1, S1, q, N, fun n m hn hm => by simp only [exec, ht]; exact hN n m hn hm⟩
    · exact h.elim
  | block id c ih =>
    intro g S Q d h
    obtain ⟨ex, g1, S1, q, N, hN⟩ := ih (show wpC E c g S (fun ex g' S' => match ex with | .exit i => if i = id then Q .normal g' S' else Q (.exit i) g' S' | ex => Q ex g' S') .mk from h)
    cases ex with
    | normal => exact ⟨_, g1, S1, q, N, fun n m hn hm => by simp only [exec, hN n m hn hm]⟩
    | exit i =>
      by_cases hi : i = id
      · simp only [hi, if_true] at q
        exact ⟨.normal, g1, S1, q, N, fun n m hn hm => by simp only [exec, hN n m hn hm, hi, if_true]⟩
      · simp only [hi, if_false] at q
        exact ⟨.exit i, g1, S1, q, N, fun n m hn hm => by simp only [exec, hN n m hn hm, hi, if_false]⟩
    | ret => exact ⟨_, g1, S1, q, N, fun n m hn hm => by simp only [exec, hN n m hn hm]⟩
  | loop c ih => intro g S Q d h; exact h
  | exit id => intro g S Q d h; exact ⟨_, g, S, h, 0, fun n m _ _ => rfl⟩
  | ret => intro g S Q d h; exact ⟨_, g, S, h, 0, fun n m _ _ => rfl⟩
  | fail => intro g S Q d h; exact h.elim

/-! ### more holds behind -/
theorem wpO_mono {E : Env} {op : AOp} {g : Frame} {S : Store} {L : List AV} {K K' : AV → Store → Prop} {d : Dm K} {d' : Dm K'} (h : wpO E op g S L K d) (hk : ∀ v S, K v S → K' v S) : wpO E op g S L K' d' := by
  unfold wpO at h ⊢
  split at h
  · exact Sp.of h hk
  · unfold callV at h ⊢
    split at h
    · exact Sp.of h hk
    · exact h.elim
  · rename_i h1 h2
    obtain ⟨v, S', e, k⟩ := thn_spec h
    rw [e]; exact hk v S' k
theorem byV_mono {x : AV} {b : Bool} {A B A' B' : Prop} {p : Dm A} {q : Dm B} {p' : Dm A'} {q' : Dm B'} (h : byV x b A B p q) (h1 : A → A') (h2 : B → B') : byV x b A' B' p' q' := by
  unfold byV at h ⊢
  split at h
  · unfold cnd at h ⊢
    split at h
    · rename_i h0; simp only [h0, if_true]; exact h1 h
    · rename_i h0; simp only [h0, if_false]; exact h2 h
  · exact h2 h
  · exact h.elim
theorem ifV_mono {x : AV} {A B A' B' : Prop} {p : Dm A} {q : Dm B} {p' : Dm A'} {q' : Dm B'} (h : ifV x A B p q) (h1 : A → A') (h2 : B → B') : ifV x A' B' p' q' := by
  unfold ifV at h ⊢
  split at h
  · unfold cnd at h ⊢
    split at h
    · rename_i h0; simp only [h0, if_true]; exact h1 h
    · rename_i h0; simp only [h0, if_false]; exact h2 h
  · exact h.elim
theorem wpI_mono {E : Env} : ∀ {ins : List AIns} {g : Frame} {S : Store} {L : List AV} {Q Q' : Frame → Store → List AV → Prop} {d : Dm Q} {d' : Dm Q'}, wpI E ins g S L Q d → (∀ g S L, Q g S L → Q' g S L) → wpI E ins g S L Q' d'
  | [], g, S, L, Q, Q', d, d', h, hk => hk g S L h
  | ⟨none, op, gd⟩ :: ins, g, S, L, Q, Q', d, d', h, hk => by
    simp only [wpI, wpG] at h ⊢
    split at h
    · exact wpO_mono h fun v S' h => wpI_mono h hk
    · exact byV_mono h (fun h => wpO_mono h fun v S' h => wpI_mono h hk) fun h => wpI_mono h hk
  | ⟨some t, op, gd⟩ :: ins, g, S, L, Q, Q', d, d', h, hk => by
    simp only [wpI, wpG] at h ⊢
    split at h
    · exact wpO_mono h fun v S' h => wpI_mono h hk
    · exact byV_mono h (fun h => wpO_mono h fun v S' h => wpI_mono h hk) fun h => wpI_mono h hk
theorem Ex.of {E : Env} {c : ACode} {g : Frame} {S : Store} {Q Q' : AExit → Frame → Store → Prop} (h : Ex E c g S Q) (hk : ∀ e g S, Q e g S → Q' e g S) : Ex E c g S Q' :=
  let ⟨e, g', S', q, r⟩ := h; ⟨e, g', S', hk e g' S' q, r⟩
theorem wpC_mono {E : Env} : ∀ {c : ACode} {g : Frame} {S : Store} {Q Q' : AExit → Frame → Store → Prop} {d : Dm Q} {d' : Dm Q'}, wpC E c g S Q d → (∀ e g S, Q e g S → Q' e g S) → wpC E c g S Q' d' := by
  intro c
  induction c with
  | skip => intro g S Q Q' d d' h hk; exact hk _ _ _ h
  | region ins fl =>
    intro g S Q Q' d d' h hk
    cases fl with
    | nil => exact wpI_mono (show wpI E ins g S [] (fun g' S' _ => Q .normal g' S') .mk from h) fun g S L h => hk _ _ _ h
    | cons p fl => exact Ex.of (show Ex E _ g S Q from h) hk
  | seq a b iha ihb =>
    intro g S Q Q' d d' h hk
    refine iha (show wpC E a g S (fun ex g' S' => match ex with | .normal => wpC E b g' S' Q d | ex => Q ex g' S') .mk from h) fun e g' S' h => ?_
    cases e with
    | normal => exact ihb h hk
    | exit i => exact hk _ _ _ h
    | ret => exact hk _ _ _ h
  | cond c a b iha ihb =>
    intro g S Q Q' d d' h hk
    exact ifV_mono (show ifV (ev g [] c) (wpC E a g S Q d) (wpC E b g S Q d) .mk .mk from h) (fun h => iha h hk) fun h => ihb h hk
  | block id c ih =>
    intro g S Q Q' d d' h hk
    refine ih (show wpC E c g S (fun ex g' S' => match ex with | .exit i => if i = id then Q .normal g' S' else Q (.exit i) g' S' | ex => Q ex g' S') .mk from h) fun e g' S' h => ?_
    cases e with
    | normal => exact hk _ _ _ h
    | exit i =>
      simp only at h ⊢
      by_cases hi : i = id
      · rw [if_pos hi] at h ⊢; exact hk _ _ _ h
      · rw [if_neg hi] at h ⊢; exact hk _ _ _ h
    | ret => exact hk _ _ _ h
  | loop c ih => intro g S Q Q' d d' h hk; exact Ex.of (show Ex E _ g S Q from h) hk
  | exit id => intro g S Q Q' d d' h hk; exact hk _ _ _ h
  | ret => intro g S Q Q' d d' h hk; exact hk _ _ _ h
  | fail => intro g S Q Q' d d' h hk; exact h.elim

/-- a loop, by an invariant and what grows less -/
theorem Ex.loop {E : Env} {c : ACode} {Q : AExit → Frame → Store → Prop} (I : Nat → Frame → Store → Prop)
    (step : ∀ k g S, I k g S → wpC E c g S (fun ex g' S' => match ex with | .normal => ∃ k', k' < k ∧ I k' g' S' | ex => Q ex g' S') .mk) :
    ∀ (k : Nat) (g : Frame) (S : Store), I k g S → ExL E c g S Q .mk := by
  have key : ∀ (k : Nat) (g : Frame) (S : Store), I k g S → ∃ ex g' S', Q ex g' S' ∧ ∃ N, ∀ n m r, N ≤ n → N ≤ m → N ≤ r → loopA (exec (run E m) n c) r g S = some (ex, g', S') := by
    intro k
    induction k using Nat.strongRecOn with
    | ind k ih =>
      intro g S hI
      obtain ⟨ex, g1, S1, q, N, hN⟩ := wpC_spec (step k g S hI)
      cases ex with
      | normal =>
        obtain ⟨k', hk, hI'⟩ := q
        obtain ⟨ex2, g2, S2, q2, M, hM⟩ := ih k' hk g1 S1 hI'
        refine ⟨ex2, g2, S2, q2, max N M + 1, fun n m r hn hm hr => ?_⟩
        cases r with
        | zero => omega
        | succ r => simp only [loopA, hN n m (by omega) (by omega)]; exact hM n m r (by omega) (by omega) (by omega)
      | exit id =>
        refine ⟨.exit id, g1, S1, q, N + 1, fun n m r hn hm hr => ?_⟩
        cases r with
        | zero => omega
        | succ r => simp only [loopA, hN n m (by omega) (by omega)]
      | ret =>
        refine ⟨.ret, g1, S1, q, N + 1, fun n m r hn hm hr => ?_⟩
        cases r with
        | zero => omega
        | succ r => simp only [loopA, hN n m (by omega) (by omega)]
  intro k g S hI
  obtain ⟨ex, g', S', q, N, hN⟩ := key k g S hI
  exact ⟨ex, g', S', q, N, fun n m hn hm => by simp only [exec]; exact hN n m n hn hm hn⟩

/-- what a function gives back -/
def fin (res : List ARes) (R : AV → Store → Prop) : AExit → Frame → Store → Prop
  | .exit _, _, _ => False
  | _, g, S => thnR (resA g S res) (fun vs => R (oneOrTup vs) S) .mk
theorem Sp.intro {E : Env} {f : Nat} {fn : AFunc} {args : List AV} {S : Store} {R : AV → Store → Prop} (hp : E.prim f = none) (hf : E.F f = some fn) (hl : args.length = fn.np)
    (h : wpC E fn.body (initA args) S (fin fn.res R) .mk) : Sp E f args S R := by
  obtain ⟨ex, g, S', q, N, hN⟩ := wpC_spec h
  have : ∃ vs, resA g S' fn.res = some vs ∧ R (oneOrTup vs) S' ∧ ∀ i, ex ≠ .exit i := by
    cases ex with
    | exit i => exact q.elim
    | normal =>
      simp only [fin, thnR] at q
      split at q
      · rename_i vs hv; exact ⟨vs, hv, q, by simp⟩
      · exact q.elim
    | ret =>
      simp only [fin, thnR] at q
      split at q
      · rename_i vs hv; exact ⟨vs, hv, q, by simp⟩
      · exact q.elim
  obtain ⟨vs, hv, hR, hne⟩ := this
  refine ⟨_, S', hR, N + 1, fun n hn => ?_⟩
  cases n with
  | zero => omega
  | succ n =>
    simp only [run, hp, hf, hl, if_true, hN (n + 1) n (by omega) (by omega)]
    cases ex with
    | exit i => exact absurd rfl (hne i)
    | normal => simp only [hv]; rfl
    | ret => simp only [hv]; rfl

end Go.Proofs.YtaajlbbooneiiaaDoor.Avm
