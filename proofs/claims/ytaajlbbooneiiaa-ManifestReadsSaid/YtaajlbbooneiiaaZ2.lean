/- From the program's own code to the abstract machine's: types looked up, temporaries of a region by their place. What an abstract value, an abstract store and an abstract frame say of the machine's. The store and the world: what is read, written, made. Operations that make no memory: the machine gives what the abstract machine gives. More operations that make no memory. Still more operations that make no memory. -/
import Derived.Test.YtaajlbbooneiiaaZ1
import Derived.Orders
import Derived.Below
import Derived.Laws.World
import Derived.WalkKit
import Derived.Laws.AppendOwn
import Derived.Laws.IdiomCopy
import Derived.Laws.Cells
import Derived.Laws.Rows
import Derived.Lib.ConvBytes
import Derived.Laws.BytesArg
import Derived.WalkLawsBesides
import Derived.Laws.StructEq
namespace Go.Proofs.Ytaajlbbooneiiaa.Avm

def constS : Value → Option AV
  | .int k n => some (.int k n)
  | .bool b => some (.bool b)
  | .string s => some (.str s.data.toList)
  | .pointer none => some .nilP
  | .slice none 0 0 => some .nilS
  | .map none => some .nilM
  | .chan none => some .nilC
  | .nilFunc => some .nilF
  | .nilIface => some .nilI
  | _ => none

def constSs : List Value → Option (List AV)
  | [] => some []
  | v :: vs => (constS v).bind fun a => (constSs vs).map (a :: ·)

def constAV : Value → Option AV
  | .agg cs => (constSs cs.toList).map .agg
  | v => constS v

def zeroCells (P : Program) (t : TypeId) : Option (List AV) := (P.info? t).bind fun i => i.zero.bind fun z => constSs z.cells.toList
def zeroAV (P : Program) (t : TypeId) : Option AV := (P.info? t).bind fun i => i.zero.bind constAV
def szOf (P : Program) (t : TypeId) : Option Nat := (P.info? t).bind fun i => if 0 < i.size then some i.size else none
def isAggB (P : Program) (t : TypeId) : Option Bool :=
  match P.underlying t with
  | some (.struct _) | some (.array _ _) => some true
  | some _ => some false
  | none => none

/-- a struct whose fields are scalars, one cell each, compared one by one: their kinds -/
def scalarFields (P : Program) : Nat → List Field → Option (List Nat)
  | _, [] => some []
  | i, f :: fs => if f.offset = i ∧ f.name ≠ "_" then
      (match P.underlying f.type with | some (.int _) => some 0 | some .string => some 1 | some .bool => some 2 | _ => none).bind fun k => (scalarFields P (i + 1) fs).map (k :: ·) else none
def scalarStruct (P : Program) (t : TypeId) : Option (List Nat) :=
  match P.underlying t with
  | some (.struct fs) => if P.stoodInHeld t = false ∧ P.eqGuardType P.depth t = false then scalarFields P 0 fs.toList else none
  | _ => none

def nilClass (P : Program) (t : TypeId) : Option Nat :=
  match P.underlying t with
  | some (.pointer _) => some 0
  | some (.slice _) => some 1
  | some (.map _ _) => some 2
  | some (.chan _ _) => some 3
  | some (.func _ _ _) => some 4
  | _ => none

def keyKind (P : Program) (t : TypeId) : Option (List Nat) :=
  match P.underlying t with
  | some (.int _) => some [0]
  | some .string => some [1]
  | _ => none

def places (P : Program) (fs : List Field) : Option (List (Nat × Nat)) :=
  match fs with
  | [] => some []
  | f :: fs => (P.info? f.type).bind fun i => (places P fs).map ((f.offset, i.size) :: ·)

def partsOf (tr : Operand → Option AX) (pl : Nat → Option (Nat × Nat)) : List (Nat × Operand) → Option (List (Nat × Nat × AX))
  | [] => some []
  | (i, x) :: rest => (pl i).bind fun (off, n) => (tr x).bind fun ax => if 0 < n then (partsOf tr pl rest).map ((off, n, ax) :: ·) else none

def trs (tr : Operand → Option AX) : List Operand → Option (List AX)
  | [] => some []
  | x :: xs => (tr x).bind fun a => (trs tr xs).map (a :: ·)

def trO (tr : Operand → Option AX) : Option Operand → Option (Option AX)
  | none => some none
  | some x => (tr x).map some

def repCells (z : List AV) : Nat → List AV
  | 0 => []
  | n + 1 => z ++ repCells z n

def compCall (P : Program) (tr : Operand → Option AX) (c : Call) : Option AOp :=
  match c.callee with
  | .value (.func f) => (trs tr c.args.toList).map fun as => .call f as
  | .value x => (tr x).bind fun ax => (trs tr c.args.toList).map fun as => .callv ax as
  | .builtin .len => match c.args.toList, (c.argTypes[0]?).bind P.underlying with
    | [x], some .string => (tr x).map (.len true)
    | [x], some (.slice _) => (tr x).map (.len false)
    | [x], some (.map _ _) => (tr x).map .mlen
    | _, _ => none
  | .builtin .append => match c.args.toList, c.argTypes.toList with
    | [x, y], [t, u] => match P.underlying t, P.underlying u with
      | some (.slice _), some (.int _) => none
      | some (.slice e), some _ => (P.info? e).bind fun i => (zeroCells P e).bind fun z => if 0 < i.size ∧ 0 < i.bytes ∧ z.length = i.size then (tr x).bind fun ax => (tr y).map fun ay => .append i.size i.bytes ax ay else none
      | _, _ => none
    | _, _ => none
  | .builtin .clear => match c.args.toList, c.argTypes.toList with
    | [x], [t] => match P.underlying t with
      | some (.slice e) => (zeroCells P e).bind fun z => (szOf P e).bind fun sz => if z.length = sz then (tr x).map fun ax => .clear sz z ax else none
      | _ => none
    | _, _ => none
  | .builtin .max => (trs tr c.args.toList).map fun as => .mx true as
  | .builtin .min => (trs tr c.args.toList).map fun as => .mx false as
  | _ => none

def compOp (P : Program) (tr : Operand → Option AX) (o : Op) : Option AOp :=
  match o with
  | .move x | .assign x => (tr x).map .mv
  | .pick c a b => (tr c).bind fun c => (tr a).bind fun a => (tr b).map fun b => .pick c a b
  | .alloc e => (zeroCells P e).map .new
  | .box e x => (szOf P e).bind fun n => (tr x).map (.box n)
  | .build t ps => match P.underlying t with
    | some (.struct fs) => (zeroCells P t).bind fun z => (places P fs.toList).bind fun pl => (partsOf tr (pl[·]?) ps.toList).map fun ps => .build z ps
    | some (.array _ e) => (zeroCells P t).bind fun z => (szOf P e).bind fun sz => (partsOf tr (fun i => some (i * sz, sz)) ps.toList).map fun ps => .build z ps
    | _ => none
  | .buildSlice t len ps => match P.underlying t with
    | some (.slice e) => (zeroCells P e).bind fun z => (szOf P e).bind fun sz => if z.length = sz ∧ len * sz ≤ 16777216 then (partsOf tr (fun i => some (i * sz, sz)) ps.toList).map fun ps => .lit sz len (repCells z len) ps else none
    | _ => none
  | .load t a => (isAggB P t).bind fun b => (szOf P t).bind fun n => (tr a).map fun ax => .load b n ax
  | .store t a v => (szOf P t).bind fun n => (tr a).bind fun ax => (tr v).map fun ay => .store n ax ay
  | .nilCheck x => (tr x).map .nilck
  | .binOp op t x y _ => (tr x).bind fun ax => (tr y).bind fun ay => match P.underlying t with
    | some (.int _) | some .string => some (.bin op ax ay)
    | some .bool => match op with
      | .eql => some (.eqb false ax ay)
      | .neq => some (.eqb true ax ay)
      | _ => none
    | some (.struct _) => match op with
      | .eql => (scalarStruct P t).map fun n => .eqs false n ax ay
      | .neq => (scalarStruct P t).map fun n => .eqs true n ax ay
      | _ => none
    | _ => match op with
      | .eql => (nilClass P t).map fun c => .eqn false c ax ay
      | .neq => (nilClass P t).map fun c => .eqn true c ax ay
      | _ => none
  | .unOp op _ x => (tr x).map (.una op)
  | .convert s d x => (tr x).bind fun ax => match P.underlying s, P.underlying d with
    | some (.int _), some (.int k) => some (.i2i k ax)
    | some .string, some .string => some (.same ax)
    | some .string, some (.slice e) => match P.underlying e with
      | some (.int .u8) => some (.s2b ax)
      | _ => none
    | some (.slice e), some .string => match P.underlying e with
      | some (.int .u8) => some (.b2s ax)
      | _ => none
    | some (.slice _), some (.slice e) => match P.underlying e with
      | some (.int .u8) => if s = d then some (.mark ax) else none
      | _ => none
    | _, _ => none
  | .makeFunc (.func f) first cap => if first.size = 0 then (trs tr cap.toList).map fun as => .mkfn f as else none
  | .makeMap _ none => some .mkmap
  | .makeSlice t l c => match P.underlying t with
    | some (.slice e) => (P.info? e).bind fun i => (zeroCells P e).bind fun z => if 0 < i.size ∧ 0 < i.bytes ∧ z.length = i.size then (tr l).bind fun al => (tr c).map fun ac => .mksl i.size i.bytes z al ac else none
    | _ => none
  | .slice t x lo hi mx => match P.underlying t with
    | some .string => match mx with
      | none => (tr x).bind fun ax => (trO tr lo).bind fun lo => (trO tr hi).map fun hi => .sslice ax lo hi
      | some _ => none
    | some (.slice e) => (szOf P e).bind fun sz => (tr x).bind fun ax => (trO tr lo).bind fun lo => (trO tr hi).bind fun hi => (trO tr mx).map fun mx => .slice sz ax lo hi mx
    | _ => none
  | .fieldAddr t x f => match P.underlying t with
    | some (.struct fs) => (fs[f]?).bind fun fd => (szOf P fd.type).bind fun _ => (tr x).map fun ax => .faddr fd.offset ax
    | _ => none
  | .field t x f => match P.underlying t with
    | some (.struct fs) => (fs[f]?).bind fun fd => (isAggB P fd.type).bind fun b => (szOf P fd.type).bind fun n => (tr x).map fun ax => .field b fd.offset n ax
    | _ => none
  | .indexAddr t x i => match P.underlying t with
    | some (.slice e) => (szOf P e).bind fun sz => (tr x).bind fun ax => (tr i).map fun ai => .iaddr sz ax ai
    | some (.array len e) => (szOf P e).bind fun sz => (tr x).bind fun ax => (tr i).map fun ai => .aaddr len sz ax ai
    | _ => none
  | .index t x i => match P.underlying t with
    | some .string => (tr x).bind fun ax => (tr i).map fun ai => .sidx ax ai
    | _ => none
  | .lookup t m k ok => match P.underlying t with
    | some (.map kt e) => (keyKind P kt).bind fun kk => (zeroAV P e).bind fun z => (tr m).bind fun am => (tr k).map fun ak => .look kk z ok am ak
    | _ => none
  | .mapUpdate t m k v => match P.underlying t with
    | some (.map kt _) => (keyKind P kt).bind fun kk => (tr m).bind fun am => (tr k).bind fun ak => (tr v).map fun av => .mapu kk am ak av
    | _ => none
  | .extract t i => (tr t).map fun ax => .ext ax i
  | .call c => compCall P tr c
  | _ => none

/-- an operand: a slot that lives on, or what an earlier operation of the region gave -/
def opd (gl : List Nat) (ds : List (Option Nat)) : Operand → Option AX
  | .tmp t => if gl.contains t then some (.v t) else (ds.idxOf? (some t)).map .l
  | .const v => (constAV v).map .k
  | .func f => some (.k (.fn f []))
  | .global _ => none

/-- rows that are made and never turned are made for good -/
def frz : AOp → AOp
  | .s2b x => .s2bf x
  | .lit a b c d => .litf a b c d
  | .slice sz x (some lo) (some hi) none => .slicex sz x lo hi
  | o => o
def frzN : AOp → AOp
  | .lit a b c d => .litn a b c d
  | o => o
def isTmp (d : Nat) : Operand → Bool
  | .tmp t => t == d
  | _ => false
/-- does an operation take that slot's row so that it may be turned, or hand it on? -/
def turns (d : Nat) (o : Op) : Bool :=
  match o with
  | .move x | .assign x => isTmp d x
  | .pick _ a b => isTmp d a || isTmp d b
  | .slice _ x _ _ _ => isTmp d x
  | .store _ _ v => isTmp d v
  | .mapUpdate _ _ _ v => isTmp d v
  | .box _ v => isTmp d v
  | .call c => match c.callee with
    | .builtin _ => (c.args.toList.take 1).any (isTmp d)
    | _ => false
  | _ => false
/-- the slots whose rows are made for good -/
def goodSlots (gl : List Nat) (ops : List Oper) : List Nat :=
  ops.filterMap fun o => match o.dst with
    | some d => if gl.contains d then none else match o.op with
      | .buildSlice _ _ _ | .convert _ _ _ => if gl.contains (d + 1000000) then some (2 * d) else if ops.any (fun p => turns d p.op) then none else
          if ops.any (fun p => match p.op with | .convert _ _ x => isTmp d x | _ => false) then some (2 * d + 1) else some (2 * d)
      | .slice _ _ (some (.tmp a)) (some _) none => if ops.any (fun p => p.dst == some a && (match p.op with | .call c => (match c.callee with | .builtin .len => true | _ => false) | _ => false)) then some (2 * d) else none
      | _ => none
    | none => none

def makesRow : Op → Bool
  | .buildSlice _ _ _ | .convert _ _ _ => true
  | .slice _ _ _ _ _ => true
  | _ => false
def opOf (al : List Nat) (o : Oper) (ao : AOp) : AOp := match o.dst with | some d => if al.contains (2 * d) && makesRow o.op then frz ao else if al.contains (2 * d + 1) && makesRow o.op then frzN ao else ao | none => ao
/-- the operations of a region; ds: the places that the operations ahead have written -/
def compOps (P : Program) (gl al : List Nat) : List (Option Nat) → List Oper → List AIns
  | _, [] => []
  | ds, o :: rest =>
    ⟨match o.dst with | some d => if gl.contains d then some d else none | none => none,
     opOf al o ((compOp P (opd gl ds) o.op).getD .fail),
     match o.guard with
      | none => none
      | some (j, b) => some (j, b)⟩ :: compOps P gl al (ds ++ [o.dst]) rest

/-- what an operation looks at -/
def looksAt (ops : List Oper) (o : Oper) : List Nat :=
  (o.op.operands.toList.filterMap fun | .tmp t => some t | _ => none) ++ (match o.guard with | some (j, _) => ((ops[j]?).bind (·.dst)).toList | none => [])

def isEvent : AOp → Bool
  | .new _ | .box _ _ | .lit _ _ _ _ | .store _ _ _ | .s2b _ | .mkmap | .mksl _ _ _ _ _ | .mapu _ _ _ _ | .append _ _ _ _ | .clear _ _ _ | .call _ _ | .callv _ _ => true
  | _ => false
def isRead : AOp → Bool
  | .load _ _ _ | .look _ _ _ _ _ | .mlen _ | .b2s _ | .slicex _ _ _ _ => true
  | _ => false

/-- the operations ahead that an operation waits for, over and over -/
def ancs : List (List Nat) → List Oper → List (List Nat)
  | acc, [] => acc
  | acc, o :: rest =>
    let ds := (o.after.toList.filter (Region.binds .any)).map (·.on)
    ancs (acc ++ [ds ++ ds.flatMap fun d => acc.getD d []]) rest

def sep (ops : List Oper) (x y : Oper) : Bool :=
  match x.dst with
  | some d => !(looksAt ops y).contains d && (y.dst != some d)
  | none => true

/-- one pair of operations, i ahead of j in the text -/
def pairOk (ops : List Oper) (anc : List (List Nat)) (ins : List AIns) (fl : List (Nat × Nat)) (i j : Nat) : Bool :=
  (anc.getD j []).contains i ||
  match ops[i]?, ops[j]?, ins[i]?, ins[j]? with
  | some x, some y, some a, some b =>
    sep ops x y && sep ops y x && !(isEvent a.op && isEvent b.op) &&
    (!(isRead a.op && isEvent b.op) || fl.contains (i, j)) && (!(isEvent a.op && isRead b.op) || fl.contains (j, i))
  | _, _, _, _ => false

/-- the loads that may come up on either side of an event -/
def flOf (anc : List (List Nat)) (ins : List AIns) : List (Nat × Nat) :=
  (List.range ins.length).flatMap fun i => (List.range ins.length).filterMap fun j =>
    match ins[i]?, ins[j]? with
    | some a, some b => if isRead a.op && isEvent b.op && !(anc.getD j []).contains i && !(anc.getD i []).contains j then some (i, j) else none
    | _, _ => none

def drawOk (ops : List Oper) (ins : List AIns) (fl : List (Nat × Nat)) : Bool :=
  let anc := ancs [] ops
  (List.range ops.length).all fun j => (List.range j).all fun i => pairOk ops anc ins fl i j

def distinct (ds : List (Option Nat)) : Bool :=
  match ds with
  | [] => true
  | none :: ds => distinct ds
  | some d :: ds => !ds.contains (some d) && distinct ds

/-- bounds, guards, distinct places -/
def opsOk (N : Nat) (ops : List Oper) : Bool :=
  distinct (ops.map (·.dst)) &&
  (List.range ops.length).all fun j => match ops[j]? with
    | some o => (match o.dst with | some d => decide (d < N) | none => true) &&
      (match o.guard with | none => true | some (g, _) => decide (g < j) && ((ops[g]?).bind (·.dst)).isSome) &&
      o.after.toList.all fun e => !Region.binds .any e || decide (e.on < j)
    | none => false

def compRegion (P : Program) (gl : List Nat) (N : Nat) (ops : List Oper) (draw : Bool) : ACode :=
  let ins := compOps P gl (goodSlots gl ops) [] ops
  let fl := if draw then flOf (ancs [] ops) ins else []
  if opsOk N ops && (!draw || drawOk ops ins fl) then .region ins fl else .fail

def compCode (P : Program) (gl : List Nat) (N : Nat) : Code → ACode
  | .skip => .skip
  | .region _ ops draw => compRegion P gl N ops.toList draw
  | .seq a b => .seq (compCode P gl N a) (compCode P gl N b)
  | .cond c a b => match opd gl [] c with
    | some ax => .cond ax (compCode P gl N a) (compCode P gl N b)
    | none => .fail
  | .block id c => .block id (compCode P gl N c)
  | .loop c => .loop (compCode P gl N c)
  | .exit id => .exit id
  | .ret => .ret
  | _ => .fail

def compRes (P : Program) (gl : List Nat) : List ResultVar → Option (List ARes)
  | [] => some []
  | .tmp t :: rest => if gl.contains t then (compRes P gl rest).map (.tmp t :: ·) else none
  | .cell a t :: rest => if gl.contains a then (isAggB P t).bind fun b => (szOf P t).bind fun n => (compRes P gl rest).map (.cell b n a :: ·) else none

def compF (P : Program) (gl : List Nat) (fn : Func) : Option AFunc :=
  match fn.body, compRes P gl fn.results.toList with
  | some c, some rs =>
    let np := fn.params.size + fn.nfree
    if np ≤ fn.ntmps && fn.name != "runtime.NumGoroutine" then some ⟨np, compCode P gl fn.ntmps c, rs⟩ else none
  | _, _ => none

/-! ### which slots live on -/
def opTmps (o : Oper) : List Nat := o.op.operands.toList.filterMap fun | .tmp t => some t | _ => none
def glOps : List (Option Nat) → List Oper → List Nat
  | _, [] => []
  | ds, o :: rest => ((opTmps o).filter fun t => !ds.contains (some t)) ++ glOps (ds ++ [o.dst]) rest
def glCode : Code → List Nat
  | .region _ ops _ => glOps [] ops.toList
  | .seq a b => glCode a ++ glCode b
  | .cond c a b => (match c with | Operand.tmp t => [t] | _ => []) ++ glCode a ++ glCode b
  | .block _ c => glCode c
  | .loop c => glCode c
  | _ => []
def insN (n : Nat) : List Nat → List Nat
  | [] => [n]
  | m :: l => if n = m then m :: l else if n < m then n :: m :: l else m :: insN n l
def glFunc (fn : Func) : List Nat :=
  ((fn.body.map glCode).getD [] ++ fn.results.toList.map fun | ResultVar.tmp t => t | ResultVar.cell a _ => a).foldr insN []

end Go.Proofs.Ytaajlbbooneiiaa.Avm
set_option linter.unusedVariables false
set_option linter.unusedSimpArgs false
namespace Go.Proofs.Ytaajlbbooneiiaa.Avm
open Go.RowKit

structure Pl where
  b : Nat
  o : Nat
  cap : Nat
  tot : Nat

/-- places of the objects; cells that stay as they are -/
structure Pc where
  pl : List Pl
  fz : Addr → Option Value
def Pc.snoc (φ : Pc) (p : Pl) : Pc := ⟨φ.pl ++ [p], φ.fz⟩

inductive V (w0 : World) (φ : Pc) : AV → Value → Prop
  | int (k : IntKind) (n : Int) : V w0 φ (.int k n) (.int k n)
  | bool (b : Bool) : V w0 φ (.bool b) (.bool b)
  | str (s : ByteArray) : V w0 φ (.str s.data.toList) (.string s)
  | nilP : V w0 φ .nilP (.pointer none)
  | ptr {id off : Nat} {p : Pl} (hp : φ.pl[id]? = some p) : V w0 φ (.ptr id off) (.pointer (some ⟨p.b, p.o + off, none⟩))
  | cptr {cs : List AV} {cvs : List Value} {a : Addr} (hl : cs.length = cvs.length) (hc : ∀ (j : Nat) (cv : Value), cvs[j]? = some cv → φ.fz (a.add j) = some cv)
      (h : ∀ (j : Nat) (v : AV) (cv : Value), cs[j]? = some v → cvs[j]? = some cv → V w0 φ v cv) (ho : ∀ cv, cv ∈ cvs → cv.oneCell' = true) : V w0 φ (.cptr cs) (.pointer (some a))
  | nilS : V w0 φ .nilS (.slice none 0 0)
  | sl {id off n sz c : Nat} {a : Addr} {p : Pl} (hp : φ.pl[id]? = some p) (ha : 0 < c → a = ⟨p.b, p.o + off, none⟩) (ht : p.tot ≤ off + c * sz)
      (hc : p.o + off + c * sz ≤ p.cap) (hn : n ≤ c) (hs : 0 < sz) (hk : off + n * sz ≤ p.tot) : V w0 φ (.sl id off n sz) (.slice (some a) n c)
  | slc {id off n sz c : Nat} {a : Addr} {p : Pl} (hp : φ.pl[id]? = some p) (ha : 0 < c → a = ⟨p.b, p.o + off, none⟩) (hk : off + c * sz ≤ p.tot) (hn : n ≤ c) (hs : 0 < sz) : V w0 φ (.slc id off n c sz) (.slice (some a) n c)
  | csl {cs : List AV} {cvs : List Value} {a : Addr} {n c : Nat} (hl : cs.length = cvs.length) (hc : ∀ (j : Nat) (cv : Value), cvs[j]? = some cv → φ.fz (a.add j) = some cv)
      (h : ∀ (j : Nat) (v : AV) (cv : Value), cs[j]? = some v → cvs[j]? = some cv → V w0 φ v cv) (ho : ∀ cv, cv ∈ cvs → cv.oneCell' = true) (hn : n ≤ c) : V w0 φ (.csl cs n) (.slice (some a) n c)
  | csln {cs : List AV} {cvs : List Value} {a : Addr} {n c : Nat} (hl : cs.length = cvs.length) (hc : ∀ (j : Nat) (cv : Value), cvs[j]? = some cv → φ.fz (a.add j) = some cv)
      (h : ∀ (j : Nat) (v : AV) (cv : Value), cs[j]? = some v → cvs[j]? = some cv → V w0 φ v cv) (ho : ∀ cv, cv ∈ cvs → cv.oneCell' = true) (hn : n ≤ c) (hb : w0.heap.size ≤ a.block) (ha : a.spot = none) : V w0 φ (.csln cs n) (.slice (some a) n c)
  | csl0 : V w0 φ (.csl [] 0) (.slice none 0 0)
  | emp {b : Option Addr} : V w0 φ .emp (.slice b 0 0)
  | nsl {a : Addr} {c : Nat} : V w0 φ .nsl (.slice (some a) 0 c)
  | nilM : V w0 φ .nilM (.map none)
  | map {id : Nat} {p : Pl} (hp : φ.pl[id]? = some p) : V w0 φ (.map id) (.map (some p.b))
  | nilC : V w0 φ .nilC (.chan none)
  | chan {id : Nat} {p : Pl} (hp : φ.pl[id]? = some p) : V w0 φ (.chan id) (.chan (some p.b))
  | fn {f : Nat} {cap : List AV} {cvs : List Value} (hl : cap.length = cvs.length) (h : ∀ (j : Nat) (v : AV) (cv : Value), cap[j]? = some v → cvs[j]? = some cv → V w0 φ v cv) :
      V w0 φ (.fn f cap) (.func (.func f) #[] cvs.toArray)
  | nilF : V w0 φ .nilF .nilFunc
  | nilI : V w0 φ .nilI .nilIface
  | agg {cs : List AV} {cvs : List Value} (hl : cs.length = cvs.length) (h : ∀ (j : Nat) (v : AV) (cv : Value), cs[j]? = some v → cvs[j]? = some cv → V w0 φ v cv)
      (ho : ∀ cv, cv ∈ cvs → cv.oneCell' = true) : V w0 φ (.agg cs) (.agg cvs.toArray)
  | tup {vs : List AV} {cvs : List Value} (hl : vs.length = cvs.length) (h : ∀ (j : Nat) (v : AV) (cv : Value), vs[j]? = some v → cvs[j]? = some cv → V w0 φ v cv) : V w0 φ (.tup vs) (.tuple cvs.toArray)
  | junk {cv : Value} (ho : cv.oneCell' = true) : V w0 φ .junk cv

/-- more places, the old ones as they were; more cells that stay -/
structure Ext (φ φ' : Pc) : Prop where
  pl : ∀ (i : Nat) (p : Pl), φ.pl[i]? = some p → φ'.pl[i]? = some p
  fz : ∀ (a : Addr) (cv : Value), φ.fz a = some cv → φ'.fz a = some cv
theorem Ext.refl (φ : Pc) : Ext φ φ := ⟨fun _ _ h => h, fun _ _ h => h⟩
theorem Ext.trans {a b c : Pc} (h : Ext a b) (k : Ext b c) : Ext a c := ⟨fun i p hi => k.pl i p (h.pl i p hi), fun i p hi => k.fz i p (h.fz i p hi)⟩
theorem Ext.snoc (φ : Pc) (p : Pl) : Ext φ (φ.snoc p) := ⟨fun i q h => by
  rw [Pc.snoc, List.getElem?_append_left (List.getElem?_eq_some_iff.1 h).1]; exact h, fun _ _ h => h⟩

theorem V.mono {w0 : World} {φ φ' : Pc} (hx : Ext φ φ') {v : AV} {cv : Value} (h : V w0 φ v cv) : V w0 φ' v cv := by
  induction h with
  | int k n => exact .int k n
  | bool b => exact .bool b
  | str s => exact .str s
  | nilP => exact .nilP
  | ptr hp => exact .ptr (hx.pl _ _ hp)
  | cptr hl hc _ ho ih => exact .cptr hl (fun j cv h => hx.fz _ _ (hc j cv h)) ih ho
  | nilS => exact .nilS
  | sl hp ha ht hc hn hs hk => exact .sl (hx.pl _ _ hp) ha ht hc hn hs hk
  | slc hp ha hk hn hs => exact .slc (hx.pl _ _ hp) ha hk hn hs
  | csl hl hc _ ho hn ih => exact .csl hl (fun j cv h => hx.fz _ _ (hc j cv h)) ih ho hn
  | csln hl hc _ ho hn hb ha ih => exact .csln hl (fun j cv h => hx.fz _ _ (hc j cv h)) ih ho hn hb ha
  | csl0 => exact .csl0
  | emp => exact .emp
  | nsl => exact .nsl
  | nilM => exact .nilM
  | map hp => exact .map (hx.pl _ _ hp)
  | nilC => exact .nilC
  | chan hp => exact .chan (hx.pl _ _ hp)
  | fn hl _ ih => exact .fn hl ih
  | nilF => exact .nilF
  | nilI => exact .nilI
  | agg hl _ ho ih => exact .agg hl ih ho
  | tup hl _ ih => exact .tup hl ih
  | junk ho => exact .junk ho

/-- lists of values -/
def Vs (w0 : World) (φ : Pc) (cs : List AV) (cvs : List Value) : Prop := cs.length = cvs.length ∧ ∀ (j : Nat) (v : AV) (cv : Value), cs[j]? = some v → cvs[j]? = some cv → V w0 φ v cv
/-- lists of cells -/
def Vc (w0 : World) (φ : Pc) (cs : List AV) (cvs : List Value) : Prop := Vs w0 φ cs cvs ∧ ∀ cv, cv ∈ cvs → cv.oneCell' = true

section
variable {w0 : World} {φ φ' : Pc}
theorem Vs.mono (hx : Ext φ φ') {cs : List AV} {cvs : List Value} (h : Vs w0 φ cs cvs) : Vs w0 φ' cs cvs := ⟨h.1, fun j v cv a b => (h.2 j v cv a b).mono hx⟩
theorem Vc.mono (hx : Ext φ φ') {cs : List AV} {cvs : List Value} (h : Vc w0 φ cs cvs) : Vc w0 φ' cs cvs := ⟨h.1.mono hx, h.2⟩
theorem Vs.nil : Vs w0 φ [] [] := ⟨rfl, fun j v cv h => by simp at h⟩
theorem Vs.cons {v : AV} {cv : Value} {cs : List AV} {cvs : List Value} (h : V w0 φ v cv) (k : Vs w0 φ cs cvs) : Vs w0 φ (v :: cs) (cv :: cvs) := by
  refine ⟨by simp [k.1], fun j a b ha hb => ?_⟩
  cases j with
  | zero => simp at ha hb; subst ha; subst hb; exact h
  | succ j => simp at ha hb; exact k.2 j a b ha hb
theorem Vs.cons_inv {v : AV} {cs : List AV} {cvs : List Value} (h : Vs w0 φ (v :: cs) cvs) : ∃ cv cvs', cvs = cv :: cvs' ∧ V w0 φ v cv ∧ Vs w0 φ cs cvs' := by
  cases cvs with
  | nil => simp [Vs] at h
  | cons cv cvs => exact ⟨cv, cvs, rfl, h.2 0 v cv rfl rfl, by simpa using h.1, fun j a b ha hb => h.2 (j + 1) a b (by simpa using ha) (by simpa using hb)⟩
theorem Vs.append {cs ds : List AV} {cvs dvs : List Value} (h : Vs w0 φ cs cvs) (k : Vs w0 φ ds dvs) : Vs w0 φ (cs ++ ds) (cvs ++ dvs) := by
  refine ⟨by simp [h.1, k.1], fun j a b ha hb => ?_⟩
  by_cases hj : j < cs.length
  · rw [List.getElem?_append_left hj] at ha
    rw [List.getElem?_append_left (h.1 ▸ hj)] at hb
    exact h.2 j a b ha hb
  · rw [List.getElem?_append_right (by omega)] at ha
    rw [List.getElem?_append_right (by have := h.1; omega), ← h.1] at hb
    exact k.2 _ a b ha hb
theorem Vs.take {cs : List AV} {cvs : List Value} (h : Vs w0 φ cs cvs) (n : Nat) : Vs w0 φ (cs.take n) (cvs.take n) := by
  refine ⟨by simp [h.1], fun j a b ha hb => ?_⟩
  rw [List.getElem?_take] at ha hb
  split at ha
  · simp_all; exact h.2 j a b ha hb
  · cases ha
theorem Vs.drop {cs : List AV} {cvs : List Value} (h : Vs w0 φ cs cvs) (n : Nat) : Vs w0 φ (cs.drop n) (cvs.drop n) := by
  refine ⟨by simp [h.1], fun j a b ha hb => ?_⟩
  rw [List.getElem?_drop] at ha hb
  exact h.2 _ a b ha hb
theorem Vs.get {cs : List AV} {cvs : List Value} (h : Vs w0 φ cs cvs) {j : Nat} {v : AV} (hv : cs[j]? = some v) : ∃ cv, cvs[j]? = some cv ∧ V w0 φ v cv := by
  have hj : j < cvs.length := by have := (List.getElem?_eq_some_iff.1 hv).1; have := h.1; omega
  exact ⟨cvs[j], List.getElem?_eq_getElem hj, h.2 j v _ hv (List.getElem?_eq_getElem hj)⟩
theorem Vc.append {cs ds : List AV} {cvs dvs : List Value} (h : Vc w0 φ cs cvs) (k : Vc w0 φ ds dvs) : Vc w0 φ (cs ++ ds) (cvs ++ dvs) :=
  ⟨h.1.append k.1, fun cv hcv => (List.mem_append.1 hcv).elim (h.2 cv) (k.2 cv)⟩
theorem Vc.take {cs : List AV} {cvs : List Value} (h : Vc w0 φ cs cvs) (n : Nat) : Vc w0 φ (cs.take n) (cvs.take n) := ⟨h.1.take n, fun cv hcv => h.2 cv (List.mem_of_mem_take hcv)⟩
theorem Vc.drop {cs : List AV} {cvs : List Value} (h : Vc w0 φ cs cvs) (n : Nat) : Vc w0 φ (cs.drop n) (cvs.drop n) := ⟨h.1.drop n, fun cv hcv => h.2 cv (List.mem_of_mem_drop hcv)⟩
theorem Vc.nil : Vc w0 φ [] [] := ⟨.nil, fun _ h => by cases h⟩
theorem Vc.cons {v : AV} {cv : Value} {cs : List AV} {cvs : List Value} (h : V w0 φ v cv) (ho : cv.oneCell' = true) (k : Vc w0 φ cs cvs) : Vc w0 φ (v :: cs) (cv :: cvs) :=
  ⟨.cons h k.1, fun x hx => by cases hx with | head => exact ho | tail _ hx => exact k.2 x hx⟩

/-- a value's cells -/
theorem V.cells {v : AV} {cv : Value} (h : V w0 φ v cv) (hn : v.cells ≠ []) : Vc w0 φ v.cells cv.cells.toList := by
  cases h with
  | agg hl h ho => exact ⟨⟨hl, h⟩, ho⟩
  | tup => exact absurd rfl hn
  | junk ho =>
    have : cv.cells = #[cv] := by cases cv <;> simp_all [Value.oneCell', Value.cells]
    rw [this]; exact .cons (.junk ho) ho .nil
  | _ => all_goals (refine Vc.cons ?_ rfl .nil; constructor <;> assumption)
end

/-- one object -/
def objRel (w0 : World) (φ : Pc) (w : World) (p : Pl) : AObj → Prop
  | .cells cs => p.tot = cs.length ∧ w0.heap.size ≤ p.b ∧ ∃ ccs e fr, w.heap[p.b]? = some (.cells ccs e fr) ∧ ccs.size = p.cap ∧ (fr = (0, 0) ∨ ccs.size ≤ fr.1) ∧
      p.o + cs.length ≤ ccs.size ∧ ∀ (j : Nat) (v : AV), cs[j]? = some v → ∃ cv, ccs[p.o + j]? = some cv ∧ V w0 φ v cv ∧ cv.oneCell' = true
  | .map es => w0.heap.size ≤ p.b ∧ ∃ ces clk, w.heap[p.b]? = some (.map ces clk) ∧ ces.size = es.length ∧
      ∀ (j : Nat) (k v : AV) (e : MapEntry), es[j]? = some (k, v) → ces[j]? = some e → V w0 φ k e.key ∧ V w0 φ v e.val
  | .chan cap buf => w0.heap.size ≤ p.b ∧ ∃ cb s r, w.heap[p.b]? = some (.chan cap cb false s r false) ∧ Vs w0 φ buf cb.toList
  | .dead => True

def live : AObj → Prop
  | .dead => False
  | _ => True

structure Rel (w0 : World) (φ : Pc) (S : Store) (w : World) : Prop where
  below : Below w0.heap.size w0 w
  len : φ.pl.length = S.length
  fz : ∀ (a : Addr) (cv : Value), φ.fz a = some cv → w.cell? a = some cv
  fzb : ∀ (a : Addr) (cv : Value) (i : Nat) (p : Pl) (x : AObj), φ.fz a = some cv → φ.pl[i]? = some p → S[i]? = some x → live x → p.b ≠ a.block
  inj : ∀ (i j : Nat) (p q : Pl) (x y : AObj), φ.pl[i]? = some p → φ.pl[j]? = some q → S[i]? = some x → S[j]? = some y → live x → live y → p.b = q.b → i = j
  obj : ∀ (i : Nat) (p : Pl) (x : AObj), φ.pl[i]? = some p → S[i]? = some x → objRel w0 φ w p x

/-- slots that live on -/
structure FRel (w0 : World) (φ : Pc) (gl : List Nat) (N : Nat) (g : Frame) (a : Act) : Prop where
  size : a.tmps.size = N
  defers : a.defers = []
  slot : ∀ t, t ∈ gl → V w0 φ (g t) (a.tmps.getD t undef)

end Go.Proofs.Ytaajlbbooneiiaa.Avm
set_option linter.unusedVariables false
set_option linter.unusedSimpArgs false
namespace Go.Proofs.Ytaajlbbooneiiaa.Avm
open Go.RowKit

section
variable {w0 w w' : World} {φ φ' : Pc} {S : Store} {p : Pl} {id : Nat}

theorem objRel.mono (hx : Ext φ φ') {x : AObj} (h : objRel w0 φ w p x) : objRel w0 φ' w p x := by
  cases x with
  | cells cs =>
    obtain ⟨h1, h2, ccs, e, fr, h3, h4, h5, h6, h7⟩ := h
    exact ⟨h1, h2, ccs, e, fr, h3, h4, h5, h6, fun j v hv => let ⟨cv, a, b, c⟩ := h7 j v hv; ⟨cv, a, b.mono hx, c⟩⟩
  | map es =>
    obtain ⟨h2, ces, clk, h3, h4, h5⟩ := h
    exact ⟨h2, ces, clk, h3, h4, fun j k v e a b => ⟨(h5 j k v e a b).1.mono hx, (h5 j k v e a b).2.mono hx⟩⟩
  | chan cap buf =>
    obtain ⟨h2, cb, s, r, h3, h4⟩ := h
    exact ⟨h2, cb, s, r, h3, h4.mono hx⟩
  | dead => trivial

theorem objRel.heap {x : AObj} (hh : w'.heap[p.b]? = w.heap[p.b]?) (h : objRel w0 φ w p x) : objRel w0 φ w' p x := by
  cases x with
  | cells cs =>
    obtain ⟨h1, h2, ccs, e, fr, h3, h4, h5, h6, h7⟩ := h
    exact ⟨h1, h2, ccs, e, fr, by rw [hh]; exact h3, h4, h5, h6, h7⟩
  | map es =>
    obtain ⟨h2, ces, clk, h3, h4, h5⟩ := h
    exact ⟨h2, ces, clk, by rw [hh]; exact h3, h4, h5⟩
  | chan cap buf =>
    obtain ⟨h2, cb, s, r, h3, h4⟩ := h
    exact ⟨h2, cb, s, r, by rw [hh]; exact h3, h4⟩
  | dead => trivial

theorem objRel.lt {x : AObj} (hl : live x) (h : objRel w0 φ w p x) : w0.heap.size ≤ p.b ∧ p.b < w.heap.size := by
  have key : ∀ o, w.heap[p.b]? = some o → p.b < w.heap.size := fun o ho => (Array.getElem?_eq_some_iff.1 ho).1
  cases x with
  | cells cs => obtain ⟨h1, h2, ccs, e, fr, h3, _⟩ := h; exact ⟨h2, key _ h3⟩
  | map es => obtain ⟨h2, ces, clk, h3, _⟩ := h; exact ⟨h2, key _ h3⟩
  | chan cap buf => obtain ⟨h2, cb, s, r, h3, _⟩ := h; exact ⟨h2, key _ h3⟩
  | dead => exact hl.elim

theorem Rel.place (h : Rel w0 φ S w) {x : AObj} (hx : S[id]? = some x) : ∃ p, φ.pl[id]? = some p := by
  have : id < φ.pl.length := by rw [h.len]; exact (List.getElem?_eq_some_iff.1 hx).1
  exact ⟨φ.pl[id], List.getElem?_eq_getElem this⟩

theorem Rel.grown (h : Rel w0 φ S w) (hg : w.grownBy w' none) : Rel w0 φ S w' where
  below := h.below.grown hg h.below.size (fun _ hk => by cases hk)
  len := h.len
  fz := fun a cv ha => by
    have hc := h.fz a cv ha
    have := World.block_lt_of_cell? w a hc
    simp only [World.cell?] at hc ⊢; rw [hg.block _ this (by simp)]; exact hc
  fzb := h.fzb
  inj := h.inj
  obj := fun i q x hq hx => by
    by_cases hl : live x
    · exact (h.obj i q x hq hx).heap (hg.block _ ((h.obj i q x hq hx).lt hl).2 (by simp))
    · cases x <;> first | trivial | exact absurd trivial hl

theorem Rel.set (h : Rel w0 φ S w) (hp : φ.pl[id]? = some p) {x x' : AObj} (hx : S[id]? = some x) (hl : live x) (hg : w.grownBy w' (some p.b)) (ho : objRel w0 φ w' p x') :
    Rel w0 φ (S.set id x') w' where
  below := h.below.grown hg h.below.size (fun k hk => by cases hk; exact ((h.obj _ _ _ hp hx).lt hl).1)
  len := by simp [h.len]
  fz := fun a cv ha => by
    have hc := h.fz a cv ha
    have h1 := World.block_lt_of_cell? w a hc
    have h2 := h.fzb a cv id p x ha hp hx hl
    simp only [World.cell?] at hc ⊢; rw [hg.block _ h1 (by simp; exact fun e => h2 e.symm)]; exact hc
  fzb := fun a cv i q y ha hq hy ly => by
    by_cases e : id = i
    · subst e
      rw [hp] at hq; cases hq
      exact h.fzb a cv id p x ha hp hx hl
    · rw [List.getElem?_set_ne e] at hy; exact h.fzb a cv i q y ha hq hy ly
  inj := fun i j a b y z ha hb hy hz ly lz hab => by
    have live' : ∀ i y, (S.set id x')[i]? = some y → live y → ∃ y', S[i]? = some y' ∧ live y' := fun i y hy ly => by
      by_cases e : id = i
      · subst e; exact ⟨x, hx, hl⟩
      · rw [List.getElem?_set_ne e] at hy; exact ⟨y, hy, ly⟩
    obtain ⟨y', hy', ly'⟩ := live' i y hy ly
    obtain ⟨z', hz', lz'⟩ := live' j z hz lz
    exact h.inj i j a b y' z' ha hb hy' hz' ly' lz' hab
  obj := fun i q y hq hy => by
    by_cases e : id = i
    · subst e
      rw [hp] at hq; cases hq
      rw [List.getElem?_set_self (List.getElem?_eq_some_iff.1 hx).1] at hy
      cases hy; exact ho
    · rw [List.getElem?_set_ne e] at hy
      by_cases ly : live y
      · have := h.obj i q y hq hy
        refine this.heap (hg.block _ (this.lt ly).2 fun hb => e ?_)
        exact (h.inj i id q p y x hq hp hy hx ly hl (by simpa using hb)).symm
      · cases y <;> first | trivial | exact absurd trivial ly

theorem Rel.kill (h : Rel w0 φ S w) (id : Nat) : Rel w0 φ (S.set id .dead) w where
  below := h.below
  len := by simp [h.len]
  fz := h.fz
  fzb := fun a cv i q y ha hq hy ly => by
    by_cases e : id = i
    · subst e
      rw [List.getElem?_set] at hy; simp at hy; obtain ⟨_, rfl⟩ := hy; exact ly.elim
    · rw [List.getElem?_set_ne e] at hy; exact h.fzb a cv i q y ha hq hy ly
  inj := fun i j a b y z ha hb hy hz ly lz hab => by
    have live' : ∀ i y, (S.set id .dead)[i]? = some y → live y → S[i]? = some y := fun i y hy ly => by
      by_cases e : id = i
      · subst e
        rw [List.getElem?_set] at hy; simp at hy; obtain ⟨_, rfl⟩ := hy; exact ly.elim
      · rwa [List.getElem?_set_ne e] at hy
    exact h.inj i j a b y z ha hb (live' i y hy ly) (live' j z hz lz) ly lz hab
  obj := fun i q y hq hy => by
    by_cases e : id = i
    · subst e
      rw [List.getElem?_set] at hy; simp at hy; obtain ⟨_, rfl⟩ := hy; trivial
    · rw [List.getElem?_set_ne e] at hy; exact h.obj i q y hq hy

theorem Rel.push (h : Rel w0 φ S w) {x : AObj} (hf : ∀ (i : Nat) (q : Pl) (y : AObj), φ.pl[i]? = some q → S[i]? = some y → live y → q.b ≠ p.b) (hz : ∀ (a : Addr) (cv : Value), φ.fz a = some cv → p.b ≠ a.block) (ho : objRel w0 φ w p x) :
    Rel w0 (φ.snoc p) (S ++ [x]) w where
  below := h.below
  len := by simp [h.len, Pc.snoc]
  fz := h.fz
  fzb := fun a cv i q y ha hq hy ly => by
    have hlen := h.len
    simp only [Pc.snoc] at hq ha
    rw [List.getElem?_append] at hq hy
    by_cases hi : i < S.length
    · rw [if_pos (by omega)] at hq; rw [if_pos hi] at hy
      exact h.fzb a cv i q y ha hq hy ly
    · rw [if_neg (by omega)] at hq
      have e : i - φ.pl.length = 0 := by
        have := (List.getElem?_eq_some_iff.1 hq).1; simp at this; omega
      rw [e] at hq; simp at hq; subst hq; exact hz a cv ha
  inj := fun i j a b y z ha hb hy hz ly lz hab => by
    have hlen := h.len
    simp only [Pc.snoc] at ha hb
    rw [List.getElem?_append] at ha hb hy hz
    by_cases hi : i < S.length <;> by_cases hj : j < S.length
    · rw [if_pos (by omega)] at ha hb
      rw [if_pos hi] at hy
      rw [if_pos hj] at hz
      exact h.inj i j a b y z ha hb hy hz ly lz hab
    · rw [if_pos (by omega)] at ha; rw [if_neg (by omega)] at hb
      rw [if_pos hi] at hy
      have e : j - φ.pl.length = 0 := by
        have := (List.getElem?_eq_some_iff.1 hb).1; simp at this; omega
      rw [e] at hb; simp at hb; subst hb
      exact absurd hab (hf i a y ha hy ly)
    · rw [if_neg (by omega)] at ha; rw [if_pos (by omega)] at hb
      rw [if_pos hj] at hz
      have e : i - φ.pl.length = 0 := by
        have := (List.getElem?_eq_some_iff.1 ha).1; simp at this; omega
      rw [e] at ha; simp at ha; subst ha
      exact absurd hab.symm (hf j b z hb hz lz)
    · have e1 : i - S.length = 0 := by
        rw [if_neg hi] at hy; have := (List.getElem?_eq_some_iff.1 hy).1; simp at this; omega
      have e2 : j - S.length = 0 := by
        rw [if_neg hj] at hz; have := (List.getElem?_eq_some_iff.1 hz).1; simp at this; omega
      omega
  obj := fun i q y hq hy => by
    have hlen := h.len
    simp only [Pc.snoc] at hq
    rw [List.getElem?_append] at hq hy
    by_cases hi : i < S.length
    · rw [if_pos (by omega)] at hq; rw [if_pos hi] at hy
      exact (h.obj i q y hq hy).mono (Ext.snoc _ _)
    · rw [if_neg (by omega)] at hq; rw [if_neg hi] at hy
      have e1 : i - S.length = 0 := by
        have := (List.getElem?_eq_some_iff.1 hy).1; simp at this; omega
      have e2 : i - φ.pl.length = 0 := by omega
      rw [e1] at hy; rw [e2] at hq; simp at hq hy; subst hq; subst hy
      exact ho.mono (Ext.snoc _ _)

/-- a block that is new -/
theorem Rel.fresh (h : Rel w0 φ S w) (hb : w.heap.size ≤ p.b) : ∀ (i : Nat) (q : Pl) (y : AObj), φ.pl[i]? = some q → S[i]? = some y → live y → q.b ≠ p.b := fun i q y hq hy ly => by
  have := ((h.obj i q y hq hy).lt ly).2; omega

theorem Rel.freshZ (h : Rel w0 φ S w) (hb : w.heap.size ≤ p.b) : ∀ (a : Addr) (cv : Value), φ.fz a = some cv → p.b ≠ a.block := fun a cv ha => by
  have := World.block_lt_of_cell? w a (h.fz a cv ha); omega

/-- cells read -/
theorem Rel.cells (h : Rel w0 φ S w) (hp : φ.pl[id]? = some p) {cs : List AV} (hx : S[id]? = some (.cells cs)) (off n : Nat) (hn : off + n ≤ cs.length) :
    ∃ cvs, Vc w0 φ ((cs.drop off).take n) cvs ∧ cvs.length = n ∧ ∀ j cv, cvs[j]? = some cv → w.cell? ⟨p.b, p.o + off + j, none⟩ = some cv := by
  obtain ⟨_, _, ccs, e, fr, h3, _, _, h6, h7⟩ := h.obj _ _ _ hp hx
  have hl : ∀ j, j < n → ∃ v, ((cs.drop off).take n)[j]? = some v := fun j hj => ⟨_, List.getElem?_eq_getElem (by simp; omega)⟩
  refine ⟨(List.range n).map fun j => ccs.getD (p.o + off + j) undef, ⟨⟨by simp; omega, fun j v cv hv hcv => ?_⟩, fun cv hcv => ?_⟩, by simp, fun j cv hcv => ?_⟩
  · have hj : j < n := by have := (List.getElem?_eq_some_iff.1 hcv).1; simpa using this
    rw [List.getElem?_take, if_pos hj, List.getElem?_drop] at hv
    obtain ⟨u, hu, hV, _⟩ := h7 _ v hv
    rw [List.getElem?_map, List.getElem?_range hj] at hcv
    simp at hcv
    have : ccs.getD (p.o + off + j) undef = u := by
      rw [Nat.add_assoc, Array.getD_eq_getD_getElem?, hu]; rfl
    rw [← hcv]; simp only [Array.getD_eq_getD_getElem?] at this ⊢; rw [this]; exact hV
  · obtain ⟨j, hj, rfl⟩ := List.mem_map.1 hcv
    have hj' : j < n := by simpa using hj
    obtain ⟨v, hv⟩ := hl j hj'
    rw [List.getElem?_take, if_pos hj', List.getElem?_drop] at hv
    obtain ⟨u, hu, _, ho⟩ := h7 _ v hv
    rw [Nat.add_assoc, Array.getD_eq_getD_getElem?, hu]; exact ho
  · have hj : j < n := by have := (List.getElem?_eq_some_iff.1 hcv).1; simpa using this
    rw [List.getElem?_map, List.getElem?_range hj] at hcv
    simp only [Option.map_some, Option.some.injEq] at hcv
    obtain ⟨v, hv⟩ := hl j hj
    rw [List.getElem?_take, if_pos hj, List.getElem?_drop] at hv
    obtain ⟨u, hu, _, _⟩ := h7 _ v hv
    rw [← Nat.add_assoc] at hu
    simp only [World.cell?, h3]
    rw [← hcv, Array.getD_eq_getD_getElem?, hu]; simp

theorem add_none (b o j : Nat) : (⟨b, o, none⟩ : Addr).add j = ⟨b, o + j, none⟩ := by unfold Addr.add; split <;> simp_all

/-- what setCells leaves -/
theorem setCells_heap (b : Nat) : ∀ (vs : List Value) (o : Nat) (w : World) (ccs : Array Value) (e : TypeId) (fr : Nat × Nat), w.heap[b]? = some (.cells ccs e fr) → o + vs.length ≤ ccs.size →
    (w.setCells b o vs).heap[b]? = some (.cells (ccs.toList.take o ++ vs ++ ccs.toList.drop (o + vs.length)).toArray e fr)
  | [], o, w, ccs, e, fr, h, hb => by
    simp only [World.setCells, List.append_nil, List.length_nil, Nat.add_zero, List.take_append_drop]
    rw [h]
  | v :: vs, o, w, ccs, e, fr, h, hb => by
    simp only [List.length_cons] at hb
    have h1 : (w.setCell ⟨b, o, none⟩ v).heap[b]? = some (.cells (ccs.setIfInBounds o v) e fr) := by
      simp [World.setCell, Array.getElem?_modify, h]
    rw [World.setCells, setCells_heap b vs (o + 1) _ _ e fr h1 (by simp; omega)]
    congr 3
    simp only [Array.toList_setIfInBounds, List.length_cons]
    have hlo : o < ccs.toList.length := by simp; omega
    rw [List.take_succ_eq_append_getElem (by simpa using hlo), List.take_set_of_le (Nat.le_refl _), List.getElem_set_self, List.drop_set_of_lt (by omega)]
    simp [List.append_assoc, Nat.add_assoc, Nat.add_comm 1]
theorem setCells_grown (b : Nat) : ∀ (vs : List Value) (o : Nat) (w : World), w.grownBy (w.setCells b o vs) (some b)
  | [], _, w => ⟨rfl, rfl, rfl, Nat.le_refl _, fun _ _ _ => rfl⟩
  | v :: vs, o, w => by
    have h1 : w.grownBy (w.setCell ⟨b, o, none⟩ v) (some b) := ⟨rfl, rfl, rfl, by simp [World.setCell], fun i hi hne => Below.heap_setCell w _ _ i (fun e => hne (by rw [e]))⟩
    have h2 := setCells_grown b vs (o + 1) (w.setCell ⟨b, o, none⟩ v)
    exact ⟨h2.os.trans h1.os, h2.tape.trans h1.tape, h2.output.trans h1.output, Nat.le_trans h1.size h2.size, fun i hi hne => (h2.block i (Nat.lt_of_lt_of_le hi h1.size) hne).trans (h1.block i hi hne)⟩

/-- cells written -/
theorem Rel.write (h : Rel w0 φ S w) (hp : φ.pl[id]? = some p) {cs : List AV} (hx : S[id]? = some (.cells cs)) (off : Nat) {vs : List AV} {cvs : List Value} (hv : Vc w0 φ vs cvs) (hn : off + vs.length ≤ cs.length) :
    Rel w0 φ (S.set id (.cells (cs.take off ++ vs ++ cs.drop (off + vs.length)))) (w.setCells p.b (p.o + off) cvs) ∧
    (∀ j, j < cvs.length → (w.cell? ⟨p.b, p.o + off + j, none⟩).isSome = true) ∧ (∀ j, j < cvs.length → w.frozen? ⟨p.b, p.o + off + j, none⟩ = false) := by
  obtain ⟨h1, h2, ccs, e, fr, h3, h4, h5, h6, h7⟩ := h.obj _ _ _ hp hx
  have hl := hv.1.1
  refine ⟨h.set hp hx trivial (setCells_grown _ _ _ _) ?_, fun j hj => ?_, fun j hj => ?_⟩
  · refine ⟨by simp only [List.length_append, List.length_take, List.length_drop]; omega, h2, _, e, fr, setCells_heap p.b cvs (p.o + off) w ccs e fr h3 (by omega), ?_, ?_, ?_, fun j v hj => ?_⟩
    · simp only [List.size_toArray, List.length_append, List.length_take, List.length_drop, Array.length_toList]; omega
    · refine h5.imp (fun x => x) fun h5 => ?_
      simp only [List.size_toArray, List.length_append, List.length_take, List.length_drop, Array.length_toList]; omega
    · simp only [List.size_toArray, List.length_append, List.length_take, List.length_drop, Array.length_toList]; omega
    · simp only [List.getElem?_toArray, List.append_assoc]
      by_cases a : j < off
      · rw [List.append_assoc, List.getElem?_append_left (by simp; omega), List.getElem?_take, if_pos a] at hj
        obtain ⟨cv, c1, c2, c3⟩ := h7 j v hj
        refine ⟨cv, ?_, c2, c3⟩
        rw [List.getElem?_append_left (by simp; omega), List.getElem?_take, if_pos (by omega)]
        simpa using c1
      · by_cases b : j < off + vs.length
        · rw [List.append_assoc, List.getElem?_append_right (by simp; omega), List.getElem?_append_left (by simp; omega)] at hj
          obtain ⟨cv, c1, c2⟩ := hv.1.get hj
          refine ⟨cv, ?_, c2, hv.2 cv (List.mem_of_getElem? c1)⟩
          rw [List.getElem?_append_right (by simp; omega), List.getElem?_append_left (by simp; omega)]
          rw [← c1]; congr 1; simp; omega
        · rw [List.append_assoc, List.getElem?_append_right (by simp; omega), List.getElem?_append_right (by simp; omega), List.getElem?_drop] at hj
          obtain ⟨cv, c1, c2, c3⟩ := h7 _ v hj
          refine ⟨cv, ?_, c2, c3⟩
          rw [List.getElem?_append_right (by simp; omega), List.getElem?_append_right (by simp; omega), List.getElem?_drop]
          rw [Array.getElem?_toList]
          rw [← c1]; congr 1
          simp only [List.length_take, Array.length_toList]; omega
  · simp only [World.cell?, h3]; simp; omega
  · simp only [World.frozen?, h3]
    rcases h5 with h5 | h5
    · subst h5; simp
    · simp; omega

/-- a row made -/
theorem Rel.alloc (h : Rel w0 φ S w) {cs : List AV} {cvs : List Value} (hv : Vc w0 φ cs cvs) (e : TypeId) (cap : Nat) (spare : List Value) :
    Rel w0 (φ.snoc ⟨w.heap.size, 0, cvs.length + spare.length, cs.length⟩) (S ++ [.cells cs]) (w.alloc (.cells (cvs ++ spare).toArray e)) := by
  have hg : w.grownBy (w.alloc (.cells (cvs ++ spare).toArray e)) none := World.grownBy_alloc w _ _
  refine (h.grown hg).push (fun i q y hq hy ly => ?_) (h.freshZ (Nat.le_refl _)) ?_
  · have := ((h.obj i q y hq hy).lt ly).2; simp; omega
  · refine ⟨rfl, h.below.size, (cvs ++ spare).toArray, e, (0, 0), heap_alloc_new w _, by simp, .inl rfl, by simp; have := hv.1.1; omega, fun j v hj => ?_⟩
    obtain ⟨cv, c1, c2⟩ := hv.1.get hj
    refine ⟨cv, ?_, c2, hv.2 cv (List.mem_of_getElem? c1)⟩
    simp only [Nat.zero_add, List.getElem?_toArray]
    rw [List.getElem?_append_left (List.getElem?_eq_some_iff.1 c1).1]; exact c1

/-- a row made for good -/
theorem Rel.newF (h : Rel w0 φ S w) (hg : w.grownBy w' none) {cs : List AV} {cvs : List Value} (hv : Vc w0 φ cs cvs) (hc : ∀ (j : Nat) (cv : Value), cvs[j]? = some cv → w'.cell? ⟨w.heap.size, j, none⟩ = some cv) :
    ∃ φ', Ext φ φ' ∧ Rel w0 φ' S w' ∧ ∀ n c, n ≤ c → V w0 φ' (.csl cs n) (.slice (some ⟨w.heap.size, 0, none⟩) n c) ∧ V w0 φ' (.csln cs n) (.slice (some ⟨w.heap.size, 0, none⟩) n c) := by
  have h' := h.grown hg
  let φ' : Pc := ⟨φ.pl, fun a => if a.block = w.heap.size then w'.cell? a else φ.fz a⟩
  have hx : Ext φ φ' := ⟨fun _ _ hp => hp, fun a cv ha => by
    have := World.block_lt_of_cell? w a (h.fz a cv ha)
    simp only [φ']; rw [if_neg (by omega)]; exact ha⟩
  refine ⟨φ', hx, ⟨h'.below, h'.len, fun a cv ha => ?_, fun a cv i p x ha hp hx' hl => ?_, h'.inj, fun i p x hp hx' => (h'.obj i p x hp hx').mono hx⟩, fun n c hn => ?_⟩
  · simp only [φ'] at ha
    split at ha
    · exact ha
    · exact h'.fz a cv ha
  · simp only [φ'] at ha
    split at ha
    · have := ((h.obj i p x hp hx').lt hl).2; omega
    · exact h.fzb a cv i p x ha hp hx' hl
  · have hv' := hv.mono hx
    have key : ∀ (j : Nat) (cv : Value), cvs[j]? = some cv → φ'.fz ((⟨w.heap.size, 0, none⟩ : Addr).add j) = some cv := fun j cv hj => by
      have := hc j cv hj
      have e : (⟨w.heap.size, 0, none⟩ : Addr).add j = ⟨w.heap.size, j, none⟩ := by rw [add_none]; simp
      rw [e]; simp only [φ', if_true]; exact this
    exact ⟨.csl hv'.1.1 key hv'.1.2 hv'.2 hn, .csln hv'.1.1 key hv'.1.2 hv'.2 hn h.below.size rfl⟩

/-- a row's mark turns nothing that is told -/
theorem Rel.mark (h : Rel w0 φ S w) {a : Addr} {u : Value} (hz : φ.fz a = some u) (hb : w0.heap.size ≤ a.block) (q : Addr) (hq : q.block = a.block) (n : Nat) : Rel w0 φ S (w.freeze q n) := by
  by_cases hn : n = 0
  · subst hn; exact h
  have hsame : ∀ k, k ≠ a.block → (w.freeze q n).heap[k]? = w.heap[k]? := fun k hk => by
    simp only [World.freeze, if_neg hn, Array.getElem?_modify]
    rw [if_neg (by rw [hq]; exact fun e => hk e.symm)]
  have hcell : ∀ b, (w.freeze q n).cell? b = w.cell? b := fun b => by
    by_cases e : b.block = a.block
    · simp only [World.cell?, World.freeze, if_neg hn, Array.getElem?_modify]
      rw [if_pos (by rw [hq, e])]
      cases w.heap[b.block]? with
      | none => rfl
      | some o => cases o <;> rfl
    · simp only [World.cell?]; rw [hsame _ e]
  refine ⟨⟨?_, ?_, ?_, ?_, fun k hk => ?_⟩, h.len, fun b cv hb' => by rw [hcell]; exact h.fz b cv hb', h.fzb, h.inj, fun i p x hp hx => ?_⟩
  · simp only [World.freeze, if_neg hn]; exact h.below.os
  · simp only [World.freeze, if_neg hn]; exact h.below.tape
  · simp only [World.freeze, if_neg hn]; exact h.below.output
  · simp only [World.freeze, if_neg hn, Array.size_modify]; exact h.below.size
  · rw [hsame k (by omega)]; exact h.below.block k hk
  · by_cases hl : live x
    · exact (h.obj i p x hp hx).heap (hsame _ (h.fzb a u i p x hz hp hx hl))
    · cases x <;> first | trivial | exact absurd trivial hl

end
end Go.Proofs.Ytaajlbbooneiiaa.Avm
set_option linter.unusedVariables false
set_option linter.unusedSimpArgs false
set_option linter.unusedSectionVars false
namespace Go.Proofs.Ytaajlbbooneiiaa.Avm
open Go.RowKit

theorem guard_ok {P : Program} {w : World} (op : BinOp) (t : TypeId) (x y : Operand) (a b : Value) (h1 : ∀ cs, a ≠ .agg cs) (h2 : a ≠ .nilIface) : (eqGuard op t x y a b).run P w = .ok () w := by
  unfold eqGuard
  cases a <;> first | exact absurd rfl (h1 _) | exact absurd rfl h2 | (cases op <;> rfl)

/-- what an operation leaves -/
def Gives (w0 : World) (φ : Pc) (S' : Store) (v : AV) (r : Result Next) : Prop :=
  ∃ φ' cv w', (r = .ok (.value cv) w' ∨ (r = .ok .skip w' ∧ cv = undef)) ∧ Ext φ φ' ∧ Rel w0 φ' S' w' ∧ V w0 φ' v cv

theorem beqd (a b : List UInt8) : (a == b) = decide (a = b) := by rw [Bool.eq_iff_iff]; simp

/-- a scalar's value -/
def sv : AV → Value
  | .int k n => .int k n
  | .bool b => .bool b
  | .str s => .string ⟨s.toArray⟩
  | _ => undef

section inv
variable {w0 : World} {φ : Pc} {cv : Value}
theorem V.int_inv {k : IntKind} {n : Int} (h : V w0 φ (.int k n) cv) : cv = .int k n := by cases h; rfl
theorem V.bool_inv {b : Bool} (h : V w0 φ (.bool b) cv) : cv = .bool b := by cases h; rfl
theorem V.str_inv {s : List UInt8} (h : V w0 φ (.str s) cv) : cv = .string ⟨s.toArray⟩ := by cases h; rfl
theorem V.str' (s : List UInt8) : V w0 φ (.str s) (.string ⟨s.toArray⟩) := V.str (⟨s.toArray⟩ : ByteArray)
theorem V.undef : V w0 φ AV.undef undef := .tup (cvs := []) rfl (fun j v cv h => by simp at h)
theorem V.tup_inv {vs : List AV} (h : V w0 φ (.tup vs) cv) : ∃ cvs, cv = .tuple cvs.toArray ∧ Vs w0 φ vs cvs := by cases h with | tup hl h => exact ⟨_, rfl, hl, h⟩
theorem V.agg_inv {cs : List AV} (h : V w0 φ (.agg cs) cv) : ∃ cvs, cv = .agg cvs.toArray ∧ Vc w0 φ cs cvs := by cases h with | agg hl h ho => exact ⟨_, rfl, ⟨hl, h⟩, ho⟩
theorem V.mkAgg {cs : List AV} {cvs : List Value} (h : Vc w0 φ cs cvs) : V w0 φ (.agg cs) (.agg cvs.toArray) := .agg h.1.1 h.1.2 h.2
theorem V.fn_inv {f : Nat} {cap : List AV} (h : V w0 φ (.fn f cap) cv) : ∃ cvs, cv = .func (.func f) #[] cvs.toArray ∧ Vs w0 φ cap cvs := by cases h with | fn hl h => exact ⟨_, rfl, hl, h⟩
theorem V.ptr_inv {id off : Nat} (h : V w0 φ (.ptr id off) cv) : ∃ p, φ.pl[id]? = some p ∧ cv = .pointer (some ⟨p.b, p.o + off, none⟩) := by cases h with | ptr hp => exact ⟨_, hp, rfl⟩
theorem V.cptr_inv {cs : List AV} (h : V w0 φ (.cptr cs) cv) : ∃ a cvs, cv = .pointer (some a) ∧ Vc w0 φ cs cvs ∧ ∀ (j : Nat) (u : Value), cvs[j]? = some u → φ.fz (a.add j) = some u := by
  cases h with | cptr hl hc h ho => exact ⟨_, _, rfl, ⟨⟨hl, h⟩, ho⟩, hc⟩
theorem V.csl_inv {cs : List AV} {n : Nat} (h : V w0 φ (.csl cs n) cv) : (∃ a c cvs, cv = .slice (some a) n c ∧ Vc w0 φ cs cvs ∧ n ≤ c ∧ ∀ (j : Nat) (u : Value), cvs[j]? = some u → φ.fz (a.add j) = some u) ∨ (cs = [] ∧ n = 0 ∧ cv = .slice none 0 0) := by
  cases h with
  | csl hl hc h ho hn => exact .inl ⟨_, _, _, rfl, ⟨⟨hl, h⟩, ho⟩, hn, hc⟩
  | csl0 => exact .inr ⟨rfl, rfl, rfl⟩
theorem V.nsl_inv (h : V w0 φ .nsl cv) : ∃ a c, cv = .slice (some a) 0 c := by cases h; exact ⟨_, _, rfl⟩
theorem V.emp_inv (h : V w0 φ .emp cv) : ∃ b, cv = .slice b 0 0 := by cases h; exact ⟨_, rfl⟩
theorem V.mkCptr {cs : List AV} {cvs : List Value} {a : Addr} (h : Vc w0 φ cs cvs) (hc : ∀ (j : Nat) (u : Value), cvs[j]? = some u → φ.fz (a.add j) = some u) : V w0 φ (.cptr cs) (.pointer (some a)) := .cptr h.1.1 hc h.1.2 h.2
theorem V.mkCsl {cs : List AV} {cvs : List Value} {a : Addr} {n c : Nat} (h : Vc w0 φ cs cvs) (hn : n ≤ c) (hc : ∀ (j : Nat) (u : Value), cvs[j]? = some u → φ.fz (a.add j) = some u) : V w0 φ (.csl cs n) (.slice (some a) n c) := .csl h.1.1 hc h.1.2 h.2 hn
theorem V.sl_inv {id off n sz : Nat} (h : V w0 φ (.sl id off n sz) cv) : ∃ a c p, cv = .slice (some a) n c ∧ φ.pl[id]? = some p ∧ (0 < c → a = ⟨p.b, p.o + off, none⟩) ∧ p.tot ≤ off + c * sz ∧ p.o + off + c * sz ≤ p.cap ∧ n ≤ c ∧ 0 < sz ∧ off + n * sz ≤ p.tot := by
  cases h with | sl hp ha ht hc hn hs hk => exact ⟨_, _, _, rfl, hp, ha, ht, hc, hn, hs, hk⟩
theorem V.slc_inv {id off n c sz : Nat} (h : V w0 φ (.slc id off n c sz) cv) : ∃ a p, cv = .slice (some a) n c ∧ φ.pl[id]? = some p ∧ (0 < c → a = ⟨p.b, p.o + off, none⟩) ∧ off + c * sz ≤ p.tot ∧ n ≤ c ∧ 0 < sz := by
  cases h with | slc hp ha hk hn hs => exact ⟨_, _, rfl, hp, ha, hk, hn, hs⟩
theorem V.nilS_inv (h : V w0 φ .nilS cv) : cv = .slice none 0 0 := by cases h; rfl
end inv

section
variable {P : Program} {w0 w : World} {φ : Pc} {S S' : Store} {ev : AX → AV} {ρ : Operand → Value} {tr : Operand → Option AX} {cf : CallF} {o : Oper} {v : AV}
  (hr : Rel w0 φ S w) (hρ : ∀ x ax, tr x = some ax → V w0 φ (ev ax) (ρ x))
include hr

theorem gives_value {cv : Value} {r : Result Next} (h : r = .ok (.value cv) w) (hv : V w0 φ v cv) : Gives w0 φ S v r := ⟨φ, cv, w, .inl h, .refl _, hr, hv⟩

include hρ

theorem ok_move {x : Operand} (ho : o.op = .move x ∨ o.op = .assign x) {ao : AOp} (hc : compOp P tr o.op = some ao) (ha : aop cf S ev ao = some (v, S')) : Gives w0 φ S' v ((execOp ρ o).run P w) := by
  have hc : (tr x).map AOp.mv = some ao := by rcases ho with ho | ho <;> (rw [ho] at hc; exact hc)
  obtain ⟨ax, hx, rfl⟩ := Option.map_eq_some_iff.1 hc
  simp only [aop, Option.some.injEq, Prod.mk.injEq] at ha
  obtain ⟨rfl, rfl⟩ := ha
  exact gives_value hr (by rcases ho with ho | ho <;> simp [execOp, ho]) (hρ _ _ hx)

theorem ok_pick {c a b : Operand} (ho : o.op = .pick c a b) {ao : AOp} (hc : compOp P tr o.op = some ao) (ha : aop cf S ev ao = some (v, S')) : Gives w0 φ S' v ((execOp ρ o).run P w) := by
  rw [ho] at hc
  simp only [compOp, Option.bind_eq_some_iff, Option.map_eq_some_iff] at hc
  obtain ⟨ac, h1, aa, h2, ab, h3, rfl⟩ := hc
  have k1 := hρ _ _ h1
  simp only [aop] at ha
  split at ha
  · rename_i t ht
    rw [ht] at k1
    have := k1.bool_inv
    cases ha
    refine gives_value hr (cv := if t then ρ a else ρ b) (by simp [execOp, ho, this, asBool]) ?_
    cases t
    · exact hρ _ _ h3
    · exact hρ _ _ h2
  · cases ha

theorem ok_nilck {x : Operand} (ho : o.op = .nilCheck x) {ao : AOp} (hc : compOp P tr o.op = some ao) (ha : aop cf S ev ao = some (v, S')) : Gives w0 φ S' v ((execOp ρ o).run P w) := by
  rw [ho] at hc
  obtain ⟨ax, hx, rfl⟩ := Option.map_eq_some_iff.1 hc
  have k := hρ _ _ hx
  simp only [aop] at ha
  split at ha
  · rename_i id off he
    rw [he] at k; obtain ⟨p, hp, e⟩ := k.ptr_inv
    cases ha; exact gives_value hr (by simp [execOp, ho, e]) (.ptr hp)
  · rename_i cs he
    rw [he] at k; have k' := k; obtain ⟨a, cvs, e, _⟩ := k.cptr_inv
    cases ha; rw [e] at k'; exact gives_value hr (by simp [execOp, ho, e]) k'
  · rename_i f cap he
    rw [he] at k; have k' := k; obtain ⟨cvs, e, _⟩ := k.fn_inv
    cases ha; rw [e] at k'; exact gives_value hr (by simp [execOp, ho, e]) k'
  · cases ha

theorem bin_int (op : BinOp) (t : TypeId) (k k' : IntKind) (a b : Int) (h : abin op (.int k a) (.int k' b) = some v) : (binOp op t (.int k a) (.int k' b)).run P w = .ok (sv v) w ∧ V w0 φ v (sv v) := by
  cases op <;> simp only [abin] at h
  all_goals first
    | (split at h
       · cases h
       · cases h; rename_i hb; exact ⟨by simp only [binOp, Op.shift]; rw [if_neg hb]; rfl, .int _ _⟩)
    | (split at h
       · rename_i hk; subst hk
         first
           | (cases h; exact ⟨by simp only [binOp]; rw [if_neg (by simp)]; rfl, .int _ _⟩)
           | (cases h; exact ⟨by simp only [binOp]; rw [if_neg (by simp)]; simp only [Op.intCmp, sv, Sem.run_pure] <;> first | rfl | (congr 2; simp), .bool _⟩)
           | (split at h
              · cases h
              · cases h; rename_i hb; exact ⟨by simp only [binOp]; rw [if_neg (by simp)]; simp only [Op.intDiv]; rw [if_neg hb]; rfl, .int _ _⟩)
       · cases h)

theorem bin_str (op : BinOp) (t : TypeId) (a b : List UInt8) (h : abin op (.str a) (.str b) = some v) : (binOp op t (.string ⟨a.toArray⟩) (.string ⟨b.toArray⟩)).run P w = .ok (sv v) w ∧ V w0 φ v (sv v) := by
  cases op <;> simp only [abin] at h
  all_goals first
    | (split at h
       · cases h; rename_i hb
         refine ⟨?_, .str' _⟩
         simp only [binOp, Op.stringOp]
         rw [if_neg (by simp [ByteArray.size, IntKind.max, IntKind.signed, IntKind.bits]; omega)]
         have : (⟨a.toArray⟩ ++ ⟨b.toArray⟩ : ByteArray) = ⟨(a ++ b).toArray⟩ := by
           apply WideShapes.bytes_inj
           simp [ByteArray.toList_data_append]
         rw [this]; rfl
       · cases h)
    | (cases h
       refine ⟨?_, .bool _⟩
       simp only [binOp, Op.stringOp, ByteArray.toList_eq, sv, Sem.run_pure]
       try simp only [beqd, Bool.not_or])
    | cases h

theorem ok_bin {op : BinOp} {t u : TypeId} {x y : Operand} (ho : o.op = .binOp op t x y u) {ao : AOp} (hc : compOp P tr o.op = some ao) {ax ay : AX} (hao : ao = .bin op ax ay) (hx : tr x = some ax) (hy : tr y = some ay)
    (ha : aop cf S ev ao = some (v, S')) : Gives w0 φ S' v ((execOp ρ o).run P w) := by
  subst hao
  simp only [aop, Option.map_eq_some_iff, Prod.mk.injEq] at ha
  obtain ⟨v', h, rfl, rfl⟩ := ha
  have kx := hρ _ _ hx
  have ky := hρ _ _ hy
  have hg := guard_ok (P := P) (w := w) op t x y (ρ x) (ρ y)
  generalize hvx : ev ax = vx at kx h
  generalize hvy : ev ay = vy at ky h
  cases vx <;> cases vy <;> try (simp [abin] at h; done)
  · have e1 := kx.int_inv; have e2 := ky.int_inv
    obtain ⟨hcv, hV⟩ := bin_int (P := P) (w := w) hr hρ op t _ _ _ _ h
    rw [e1, e2] at hg
    have hg := hg (by simp) (by simp)
    exact gives_value hr (by simp [execOp, ho, e1, e2, hg, hcv]) hV
  · have e1 := kx.str_inv; have e2 := ky.str_inv
    obtain ⟨hcv, hV⟩ := bin_str (P := P) (w := w) hr hρ op t _ _ h
    rw [e1, e2] at hg
    have hg := hg (by simp) (by simp)
    exact gives_value hr (by simp [execOp, ho, e1, e2, hg, hcv]) hV

end
end Go.Proofs.Ytaajlbbooneiiaa.Avm
set_option linter.unusedVariables false
set_option linter.unusedSimpArgs false
set_option linter.unusedSectionVars false
namespace Go.Proofs.Ytaajlbbooneiiaa.Avm
open Go.RowKit

section types
variable {P : Program} {w : World} {t : TypeId}
theorem run_size {n : Nat} (h : szOf P t = some n) : (sizeOf t).run P w = .ok n w ∧ 0 < n := by
  unfold szOf at h
  obtain ⟨i, hi, h⟩ := Option.bind_eq_some_iff.1 h
  split at h
  · cases h; rename_i hp; exact ⟨by simp [sizeOf, typeInfo, hi], hp⟩
  · cases h
theorem run_agg {b : Bool} (h : isAggB P t = some b) : (isAgg t).run P w = .ok b w := by
  unfold isAggB at h
  split at h
  · rename_i fs he; cases h; simp [isAgg, run_underlying he]
  · rename_i l e he; cases h; simp [isAgg, run_underlying he]
  · rename_i d h1 h2 he
    cases h
    simp only [isAgg, Sem.run_bind, run_underlying he, Result.andThen_ok]
    cases d <;> first | rfl | exact absurd he (h1 _) | exact absurd he (h2 _ _)
  · cases h
theorem constS_V {w0 : World} {φ : Pc} {v : Value} {a : AV} (h : constS v = some a) : V w0 φ a v ∧ v.oneCell' = true := by
  unfold constS at h
  split at h <;> cases h
  all_goals first
    | exact ⟨.int _ _, rfl⟩ | exact ⟨.bool _, rfl⟩ | exact ⟨.str _, rfl⟩ | exact ⟨.nilP, rfl⟩ | exact ⟨.nilS, rfl⟩ | exact ⟨.nilM, rfl⟩ | exact ⟨.nilC, rfl⟩ | exact ⟨.nilF, rfl⟩ | exact ⟨.nilI, rfl⟩
theorem constSs_V {w0 : World} {φ : Pc} : ∀ {vs : List Value} {as : List AV}, constSs vs = some as → Vc w0 φ as vs
  | [], as, h => by cases h; exact .nil
  | v :: vs, as, h => by
    simp only [constSs, Option.bind_eq_some_iff, Option.map_eq_some_iff] at h
    obtain ⟨a, h1, as', h2, rfl⟩ := h
    exact .cons (constS_V h1).1 (constS_V (w0 := w0) (φ := φ) h1).2 (constSs_V h2)
theorem constAV_V {w0 : World} {φ : Pc} {v : Value} {a : AV} (h : constAV v = some a) : V w0 φ a v := by
  unfold constAV at h
  split at h
  · obtain ⟨as, h1, rfl⟩ := Option.map_eq_some_iff.1 h
    have := constSs_V (w0 := w0) (φ := φ) h1
    exact V.mkAgg this
  · exact (constS_V h).1
theorem run_zero {cs : List AV} (h : zeroCells P t = some cs) : ∃ z, (zeroValue t).run P w = .ok z w ∧ constSs z.cells.toList = some cs := by
  unfold zeroCells at h
  simp only [Option.bind_eq_some_iff] at h
  obtain ⟨i, hi, z, hz, hc⟩ := h
  exact ⟨z, by simp [zeroValue, typeInfo, hi, hz], hc⟩
theorem run_zeroAV {a : AV} (h : zeroAV P t = some a) : ∃ z, (zeroValue t).run P w = .ok z w ∧ constAV z = some a := by
  unfold zeroAV at h
  simp only [Option.bind_eq_some_iff] at h
  obtain ⟨i, hi, z, hz, hc⟩ := h
  exact ⟨z, by simp [zeroValue, typeInfo, hi, hz], hc⟩
end types

theorem add_add (a : Addr) (m j : Nat) : (a.add m).add j = a.add (m + j) := by
  unfold Addr.add
  by_cases hm : m = 0
  · subst hm; simp
  · by_cases hj : j = 0
    · subst hj; simp
    · simp [hm, hj, Nat.add_assoc]

section
variable {P : Program} {w0 w : World} {φ : Pc} {S S' : Store} {ev : AX → AV} {ρ : Operand → Value} {tr : Operand → Option AX} {cf : CallF} {o : Oper} {v : AV}
  (hr : Rel w0 φ S w) (hρ : ∀ x ax, tr x = some ax → V w0 φ (ev ax) (ρ x))

theorem Rel.cell0 (hr : Rel w0 φ S w) {a : Addr} {u : Value} (h : φ.fz a = some u) : w.cell? a = some u := hr.fz a u h

/-- n cells under an address -/
theorem loadable_agg (hr : Rel w0 φ S w) {n : Nat} {x v : AV} {cx : Value} (hx : V w0 φ x cx) (h : loadA S true n x = some v) :
    ∃ a cvs cs, cx = .pointer (some a) ∧ v = .agg cs ∧ cvs.length = n ∧ Vc w0 φ cs cvs ∧ ∀ (j : Nat) (u : Value), cvs[j]? = some u → w.cell? (a.add j) = some u := by
  unfold loadA at h
  split at h
  · rename_i id off
    obtain ⟨p, hp, rfl⟩ := hx.ptr_inv
    split at h
    · rename_i cs hs
      rw [if_pos rfl] at h
      split at h
      · rename_i hn
        cases h
        obtain ⟨cvs, h1, h2, h3⟩ := hr.cells hp hs off n hn
        exact ⟨_, cvs, _, rfl, rfl, h2, h1, fun j u hu => by rw [add_none]; exact h3 j u hu⟩
      · cases h
    · cases h
  · rename_i cs
    obtain ⟨a, cvs, rfl, h1, h2⟩ := hx.cptr_inv
    rw [if_pos rfl] at h
    split at h
    · rename_i hn
      cases h
      refine ⟨a, cvs.take n, _, rfl, rfl, by have := h1.1.1; simp; omega, h1.take n, fun j u hu => hr.cell0 (h2 j u ?_)⟩
      rw [List.getElem?_take] at hu; split at hu
      · exact hu
      · cases hu
    · cases h
  · cases h

theorem loadable_one (hr : Rel w0 φ S w) {n : Nat} {x v : AV} {cx : Value} (hx : V w0 φ x cx) (h : loadA S false n x = some v) :
    ∃ a cv, cx = .pointer (some a) ∧ V w0 φ v cv ∧ w.cell? a = some cv := by
  unfold loadA at h
  split at h
  · rename_i id off
    obtain ⟨p, hp, rfl⟩ := hx.ptr_inv
    split at h
    · rename_i cs hs
      rw [if_neg (by simp)] at h
      have hlt := (List.getElem?_eq_some_iff.1 h).1
      obtain ⟨cvs, h1, h2, h3⟩ := hr.cells hp hs off 1 (by omega)
      have hv : ((cs.drop off).take 1)[0]? = some v := by rw [List.getElem?_take, if_pos (by omega), List.getElem?_drop]; simpa using h
      obtain ⟨cv, hc, hV⟩ := h1.1.get hv
      exact ⟨_, cv, rfl, hV, by simpa using h3 0 cv hc⟩
    · cases h
  · rename_i cs
    obtain ⟨a, cvs, rfl, h1, h2⟩ := hx.cptr_inv
    rw [if_neg (by simp)] at h
    obtain ⟨cv, hc, hV⟩ := h1.1.get h
    exact ⟨a, cv, rfl, hV, hr.cell0 (by simpa [Addr.add] using h2 0 cv hc)⟩
  · cases h

include hr hρ

theorem ok_load {t : TypeId} {x : Operand} (ho : o.op = .load t x) {ao : AOp} (hc : compOp P tr o.op = some ao) (ha : aop cf S ev ao = some (v, S')) : Gives w0 φ S' v ((execOp ρ o).run P w) := by
  rw [ho] at hc
  simp only [compOp, Option.bind_eq_some_iff, Option.map_eq_some_iff] at hc
  obtain ⟨b, hb, n, hn, ax, hx, rfl⟩ := hc
  simp only [aop, Option.map_eq_some_iff, Prod.mk.injEq] at ha
  obtain ⟨v', hl, rfl, rfl⟩ := ha
  have hs := run_size (w := w) hn
  have hg := run_agg (w := w) hb
  cases b with
  | true =>
    obtain ⟨a, cvs, cs, e, rfl, h1, h2, h3⟩ := loadable_agg hr (hρ _ _ hx) hl
    have := run_loadCells_list (P := P) w a cvs h3
    rw [h1] at this
    exact gives_value hr (by simp [execOp, ho, Instr.loadAt, Instr.sureAddr, e, loadVar, hg, hs.1, this]) (V.mkAgg h2)
  | false =>
    obtain ⟨a, cv, e, h2, h3⟩ := loadable_one hr (hρ _ _ hx) hl
    exact gives_value hr (by simp [execOp, ho, Instr.loadAt, Instr.sureAddr, e, loadVar, hg, h3]) h2

theorem ok_faddr {t : TypeId} {x : Operand} {f : Nat} (ho : o.op = .fieldAddr t x f) {ao : AOp} (hc : compOp P tr o.op = some ao) (ha : aop cf S ev ao = some (v, S')) : Gives w0 φ S' v ((execOp ρ o).run P w) := by
  rw [ho] at hc
  simp only [compOp] at hc
  split at hc
  · rename_i fs hu
    simp only [Option.bind_eq_some_iff, Option.map_eq_some_iff] at hc
    obtain ⟨fd, hf, n, hn, ax, hx, rfl⟩ := hc
    have hs := run_size (w := w) hn
    have k := hρ _ _ hx
    have run : ∀ a, ρ x = .pointer (some a) → (execOp ρ o).run P w = .ok (.value (.pointer (some (a.add fd.offset)))) w := fun a e => by
      have : ¬ n = 0 := by omega
      simp [execOp, ho, Instr.fieldAt, run_underlying hu, hf, Instr.sureAddr, e, fieldPlace, hs.1, this]
    simp only [aop] at ha
    split at ha
    · rename_i id off he
      rw [he] at k; obtain ⟨p, hp, e⟩ := k.ptr_inv
      cases ha
      exact gives_value hr (run _ e) (by rw [add_none, Nat.add_assoc]; exact .ptr hp)
    · rename_i cs he
      rw [he] at k; obtain ⟨a, cvs, e, h1, h2⟩ := k.cptr_inv
      cases ha
      refine gives_value hr (run _ e) (.mkCptr (h1.drop fd.offset) fun j u hu => ?_)
      rw [add_add]; rw [List.getElem?_drop] at hu; exact h2 _ _ hu
    · cases ha
  · cases hc

theorem run_part {t : TypeId} {cs : List AV} {cvs : List Value} {off n : Nat} {b : Bool} (hb : isAggB P t = some b) (hn : szOf P t = some n) (h : Vc w0 φ cs cvs) (hl : off + n ≤ cs.length)
    {v : AV} (hv : (if b then some (AV.agg ((cs.drop off).take n)) else cs[off]?) = some v) : ∃ cv, (part t cvs.toArray off).run P w = .ok cv w ∧ V w0 φ v cv := by
  have hs := run_size (w := w) hn
  have hg := run_agg (w := w) hb
  cases b with
  | true =>
    simp only [if_true, Option.some.injEq] at hv
    subst hv
    refine ⟨.agg ((cvs.drop off).take n).toArray, ?_, .mkAgg ((h.drop off).take n)⟩
    simp only [part, Sem.run_bind, hg, hs.1, Result.andThen_ok, if_true, Sem.run_pure]
    congr 2
    rw [List.take_drop]
    rw [List.extract_toArray, List.extract_eq_drop_take']
  | false =>
    simp only [Bool.false_eq_true, if_false] at hv
    obtain ⟨cv, hc, hV⟩ := h.1.get hv
    exact ⟨cv, by simp [part, hg, hc], hV⟩

theorem ok_field {t : TypeId} {x : Operand} {f : Nat} (ho : o.op = .field t x f) {ao : AOp} (hc : compOp P tr o.op = some ao) (ha : aop cf S ev ao = some (v, S')) : Gives w0 φ S' v ((execOp ρ o).run P w) := by
  rw [ho] at hc
  simp only [compOp] at hc
  split at hc
  · rename_i fs hu
    simp only [Option.bind_eq_some_iff, Option.map_eq_some_iff] at hc
    obtain ⟨fd, hf, b, hb, n, hn, ax, hx, rfl⟩ := hc
    have k := hρ _ _ hx
    simp only [aop] at ha
    split at ha
    · rename_i cs he
      rw [he] at k; obtain ⟨cvs, e, h1⟩ := k.agg_inv
      split at ha
      · rename_i hl
        have : ∃ v', (if b then some (AV.agg ((cs.drop fd.offset).take n)) else cs[fd.offset]?) = some v' ∧ v = v' ∧ S' = S := by
          cases b with
          | true => simp only [if_true] at ha ⊢; cases ha; exact ⟨_, rfl, rfl, rfl⟩
          | false => simp only [Bool.false_eq_true, if_false] at ha ⊢; obtain ⟨v', hv, hh⟩ := Option.map_eq_some_iff.1 ha; cases hh; exact ⟨_, hv, rfl, rfl⟩
        obtain ⟨v', hv, rfl, rfl⟩ := this
        obtain ⟨cv, hp, hV⟩ := run_part (P := P) hr hρ hb hn h1 hl hv
        exact gives_value hr (by simp [execOp, ho, Instr.field, run_underlying hu, hf, e, asAgg, hp]) hV
      · cases ha
    · cases ha
  · cases hc

end
end Go.Proofs.Ytaajlbbooneiiaa.Avm
set_option linter.unusedVariables false
set_option linter.unusedSimpArgs false
set_option linter.unusedSectionVars false
namespace Go.Proofs.Ytaajlbbooneiiaa.Avm
open Go.RowKit

theorem equal_bool {P : Program} {t : TypeId} {w : World} (hu : P.underlying t = some .bool) (a b : Bool) : (Op.equal t (.bool a) (.bool b)).run P w = .ok (a == b) w := by
  have : ∀ d, (Op.equalIn (d + 1) t (.bool a) (.bool b)).run P w = .ok (a == b) w := fun d => by simp [Op.equalIn, run_underlying hu]
  exact this 9999
theorem bin_eql_bool (t : TypeId) (a b : Bool) : binOp .eql t (.bool a) (.bool b) = (do pure (.bool (← Op.equal t (.bool a) (.bool b)))) := rfl
theorem bin_neq_bool (t : TypeId) (a b : Bool) : binOp .neq t (.bool a) (.bool b) = (do pure (.bool (!(← Op.equal t (.bool a) (.bool b))))) := rfl
theorem isNil_true {cls : Nat} {v : AV} (h : isNil cls v = some true) : (cls = 0 ∧ v = .nilP) ∨ (cls = 1 ∧ v = .nilS) ∨ (cls = 2 ∧ v = .nilM) ∨ (cls = 3 ∧ v = .nilC) ∨ (cls = 4 ∧ v = .nilF) := by
  unfold isNil at h
  split at h <;> simp_all
theorem class_inv {P : Program} {t : TypeId} {cls : Nat} (hu : nilClass P t = some cls) :
    (cls = 0 ∧ ∃ e, P.underlying t = some (.pointer e)) ∨ (cls = 1 ∧ ∃ e, P.underlying t = some (.slice e)) ∨ (cls = 2 ∧ ∃ k e, P.underlying t = some (.map k e)) ∨ (cls = 3 ∧ ∃ d e, P.underlying t = some (.chan d e)) ∨ (cls = 4 ∧ ∃ a b c, P.underlying t = some (.func a b c)) := by
  unfold nilClass at hu
  split at hu <;> simp_all
theorem key_nil {P : Program} {t : TypeId} {cls : Nat} {w0 w : World} {φ : Pc} (hu : nilClass P t = some cls) {vx vy : AV} {rx ry : Value} {a : Bool} (h1 : isNil cls vx = some a) (h2 : isNil cls vy = some true) (kx : V w0 φ vx rx) (ky : V w0 φ vy ry) :
    (∀ d, (Op.equalIn (d + 1) t rx ry).run P w = .ok a w) ∧ (∀ cs, rx ≠ .agg cs) ∧ rx ≠ .nilIface ∧ binOp .eql t rx ry = (do pure (.bool (← Op.equal t rx ry))) ∧ binOp .neq t rx ry = (do pure (.bool (!(← Op.equal t rx ry)))) := by
  rcases isNil_true h2 with ⟨rfl, rfl⟩ | ⟨rfl, rfl⟩ | ⟨rfl, rfl⟩ | ⟨rfl, rfl⟩ | ⟨rfl, rfl⟩ <;> cases ky <;> rcases class_inv hu with ⟨h0, h⟩ | ⟨h0, h⟩ | ⟨h0, h⟩ | ⟨h0, h⟩ | ⟨h0, h⟩ <;> try (exact absurd h0 (by decide))
  · obtain ⟨e, hu⟩ := h
    cases vx <;> simp only [isNil, Option.some.injEq, reduceCtorEq] at h1 <;> first | (subst h1; cases kx; exact ⟨fun d => by simp [Op.equalIn, run_underlying hu], by simp, by simp, rfl, rfl⟩) | (split at h1 <;> first | (cases h1; done) | (rename_i hne; simp only [Option.some.injEq] at h1; subst h1; cases kx <;> first | exact absurd rfl hne | exact ⟨fun d => by simp [Op.equalIn, run_underlying hu], by simp, by simp, rfl, rfl⟩))
  · obtain ⟨e, hu⟩ := h
    cases vx <;> simp only [isNil, Option.some.injEq, reduceCtorEq] at h1 <;> first | (subst h1; cases kx; exact ⟨fun d => by simp [Op.equalIn, run_underlying hu], by simp, by simp, rfl, rfl⟩) | (split at h1 <;> first | (cases h1; done) | (rename_i hne; simp only [Option.some.injEq] at h1; subst h1; cases kx <;> first | exact absurd rfl hne | exact ⟨fun d => by simp [Op.equalIn, run_underlying hu], by simp, by simp, rfl, rfl⟩))
  · obtain ⟨k, e, hu⟩ := h
    cases vx <;> simp only [isNil, Option.some.injEq, reduceCtorEq] at h1 <;> first | (subst h1; cases kx; exact ⟨fun d => by simp [Op.equalIn, run_underlying hu], by simp, by simp, rfl, rfl⟩) | (split at h1 <;> first | (cases h1; done) | (rename_i hne; simp only [Option.some.injEq] at h1; subst h1; cases kx <;> first | exact absurd rfl hne | exact ⟨fun d => by simp [Op.equalIn, run_underlying hu], by simp, by simp, rfl, rfl⟩))
  · obtain ⟨d, e, hu⟩ := h
    cases vx <;> simp only [isNil, Option.some.injEq, reduceCtorEq] at h1 <;> first | (subst h1; cases kx; exact ⟨fun d => by simp [Op.equalIn, run_underlying hu], by simp, by simp, rfl, rfl⟩) | (split at h1 <;> first | (cases h1; done) | (rename_i hne; simp only [Option.some.injEq] at h1; subst h1; cases kx <;> first | exact absurd rfl hne | exact ⟨fun d => by simp [Op.equalIn, run_underlying hu], by simp, by simp, rfl, rfl⟩))
  · obtain ⟨k, e, c, hu⟩ := h
    cases vx <;> simp only [isNil, Option.some.injEq, reduceCtorEq] at h1 <;> first | (subst h1; cases kx; exact ⟨fun d => by simp [Op.equalIn, run_underlying hu], by simp, by simp, rfl, rfl⟩) | (split at h1 <;> first | (cases h1; done) | (rename_i hne; simp only [Option.some.injEq] at h1; subst h1; cases kx <;> first | exact absurd rfl hne | exact ⟨fun d => by simp [Op.equalIn, run_underlying hu], by simp, by simp, rfl, rfl⟩))

section
variable {P : Program} {w0 w : World} {φ : Pc} {S S' : Store} {ev : AX → AV} {ρ : Operand → Value} {tr : Operand → Option AX} {cf : CallF} {o : Oper} {v : AV}
  (hr : Rel w0 φ S w) (hρ : ∀ x ax, tr x = some ax → V w0 φ (ev ax) (ρ x))
include hr hρ

theorem ok_una {op : UnOp} {t : TypeId} {x : Operand} (ho : o.op = .unOp op t x) {ao : AOp} (hc : compOp P tr o.op = some ao) (ha : aop cf S ev ao = some (v, S')) : Gives w0 φ S' v ((execOp ρ o).run P w) := by
  rw [ho] at hc
  obtain ⟨ax, hx, rfl⟩ := Option.map_eq_some_iff.1 hc
  have k := hρ _ _ hx
  simp only [aop, Option.map_eq_some_iff, Prod.mk.injEq] at ha
  obtain ⟨v', h, rfl, rfl⟩ := ha
  unfold auna at h
  split at h
  · rename_i i n he
    rw [he] at k; have e := k.int_inv
    cases op <;> simp only [Option.some.injEq, reduceCtorEq] at h
    subst h
    exact gives_value hr (by simp [execOp, ho, e, Op.unary, Op.intArith]) (.int _ _)
  · rename_i b he
    rw [he] at k; have e := k.bool_inv
    cases op <;> simp only [Option.some.injEq, reduceCtorEq] at h
    subst h
    exact gives_value hr (by simp [execOp, ho, e, Op.unary]) (.bool _)
  · cases h

theorem ok_mkfn {fn : Fn} {first cap : Array Operand} (ho : o.op = .makeFunc fn first cap) {ao : AOp} (hc : compOp P tr o.op = some ao) (ha : aop cf S ev ao = some (v, S'))
    (hevs : ∀ xs as, trs tr xs = some as → Vs w0 φ (evs ev as) (xs.map ρ)) : Gives w0 φ S' v ((execOp ρ o).run P w) := by
  rw [ho] at hc
  cases fn <;> simp only [compOp, reduceCtorEq] at hc
  split at hc
  · rename_i f hz
    obtain ⟨as, h1, rfl⟩ := Option.map_eq_some_iff.1 hc
    simp only [aop, Option.some.injEq, Prod.mk.injEq] at ha
    obtain ⟨rfl, rfl⟩ := ha
    have k := hevs _ _ h1
    have hf : first = #[] := Array.eq_empty_of_size_eq_zero hz
    refine gives_value hr (cv := .func (.func f) #[] (cap.toList.map ρ).toArray) ?_ (.fn k.1 k.2)
    simp [execOp, ho, Instr.makeFunc, hf]
    rw [← Array.toList_map, Array.toArray_toList]
  · cases hc

theorem ok_ext {x : Operand} {i : Nat} (ho : o.op = .extract x i) {ao : AOp} (hc : compOp P tr o.op = some ao) (ha : aop cf S ev ao = some (v, S')) : Gives w0 φ S' v ((execOp ρ o).run P w) := by
  rw [ho] at hc
  obtain ⟨ax, hx, rfl⟩ := Option.map_eq_some_iff.1 hc
  have k := hρ _ _ hx
  simp only [aop] at ha
  split at ha
  · rename_i vs he
    rw [he] at k; obtain ⟨cvs, e, h1⟩ := k.tup_inv
    obtain ⟨v', hv, hh⟩ := Option.map_eq_some_iff.1 ha; cases hh
    obtain ⟨cv, hcv, hV⟩ := h1.get hv
    exact gives_value hr (by simp [execOp, ho, Instr.extract, e, hcv]) hV
  · cases ha

theorem ok_sidx {t : TypeId} {x i : Operand} (ho : o.op = .index t x i) {ao : AOp} (hc : compOp P tr o.op = some ao) (ha : aop cf S ev ao = some (v, S')) : Gives w0 φ S' v ((execOp ρ o).run P w) := by
  rw [ho] at hc
  simp only [compOp] at hc
  split at hc
  · rename_i hu
    simp only [Option.bind_eq_some_iff, Option.map_eq_some_iff] at hc
    obtain ⟨ax, hx, ai, hi, rfl⟩ := hc
    have kx := hρ _ _ hx; have ki := hρ _ _ hi
    simp only [aop] at ha
    split at ha
    · rename_i s k j he1 he2
      rw [he1] at kx; rw [he2] at ki
      have e1 := kx.str_inv; have e2 := ki.int_inv
      split at ha
      · rename_i h0
        obtain ⟨c, hs, hh⟩ := Option.map_eq_some_iff.1 ha; cases hh
        refine gives_value hr (cv := .int .u8 c.toNat) ?_ (.int _ _)
        have : (⟨s.toArray⟩ : ByteArray)[j.toNat]? = some c := by
          have hlt := (List.getElem?_eq_some_iff.1 hs).1
          rw [getElem?_pos _ _ (by simpa [ByteArray.size] using hlt)]
          have := (List.getElem?_eq_some_iff.1 hs).2
          simpa [ByteArray.getElem_eq_getElem_data] using this
        simp [execOp, ho, Instr.index, e1, e2, asIntOf, run_underlying hu, h0, this]
      · cases ha
    · cases ha
  · cases hc

theorem ok_iaddr {t : TypeId} {x i : Operand} (ho : o.op = .indexAddr t x i) {ao : AOp} (hc : compOp P tr o.op = some ao) (ha : aop cf S ev ao = some (v, S')) : Gives w0 φ S' v ((execOp ρ o).run P w) := by
  rw [ho] at hc
  simp only [compOp] at hc
  split at hc
  · rename_i e hu
    simp only [Option.bind_eq_some_iff, Option.map_eq_some_iff] at hc
    obtain ⟨sz, hz, ax, hx, ai, hi, rfl⟩ := hc
    have hs := run_size (w := w) hz
    have kx := hρ _ _ hx; have ki := hρ _ _ hi
    have run : ∀ a n c k j, ρ x = .slice (some a) n c → ρ i = .int k j → 0 ≤ j → j < n → (execOp ρ o).run P w = .ok (.value (.pointer (some (a.add (j.toNat * sz))))) w := fun a n c k j e1 e2 h0 h1 => by
      simp [execOp, ho, Instr.indexAt, e1, e2, asIntOf, run_underlying hu, h0, h1, hs.1]
    simp only [aop] at ha
    split at ha
    · rename_i cs n k j he1 he2
      rw [he1] at kx; rw [he2] at ki
      have e2 := ki.int_inv
      split at ha
      · rename_i hj
        cases ha
        obtain ⟨a, c, cvs, e1, h1, h2, h3⟩ | ⟨_, h0, _⟩ := kx.csl_inv
        rotate_left
        · omega
        refine gives_value hr (run a n c k j e1 e2 hj.1 hj.2) (.mkCptr (h1.drop _) fun m u hm => ?_)
        rw [add_add]; rw [List.getElem?_drop] at hm; exact h3 _ _ hm
      · cases ha
    · rename_i id off n sz' k j he1 he2
      rw [he1] at kx; rw [he2] at ki
      obtain ⟨a, c, p, e1, hp, h1, h2, h3, h4, h5, h6⟩ := kx.sl_inv; have e2 := ki.int_inv
      split at ha
      · rename_i hj
        cases ha
        obtain ⟨hj0, hj1, rfl⟩ := hj
        have hcp : 0 < c := by omega
        refine gives_value hr (run a n c k j e1 e2 hj0 hj1) ?_
        rw [h1 hcp, add_none, Nat.add_assoc]; exact .ptr hp
      · cases ha
    · rename_i id off n c sz' k j he1 he2
      rw [he1] at kx; rw [he2] at ki
      obtain ⟨a, p, e1, hp, h1, h2, h4, h5⟩ := kx.slc_inv; have e2 := ki.int_inv
      split at ha
      · rename_i hj
        cases ha
        obtain ⟨hj0, hj1, rfl⟩ := hj
        have hcp : 0 < c := by omega
        refine gives_value hr (run a n c k j e1 e2 hj0 hj1) ?_
        rw [h1 hcp, add_none, Nat.add_assoc]; exact .ptr hp
      · cases ha
    · cases ha
  · rename_i len e hu
    simp only [Option.bind_eq_some_iff, Option.map_eq_some_iff] at hc
    obtain ⟨sz, hz, ax, hx, ai, hi, rfl⟩ := hc
    have hs := run_size (w := w) hz
    have kx := hρ _ _ hx; have ki := hρ _ _ hi
    have run : ∀ a k j, ρ x = .pointer (some a) → ρ i = .int k j → 0 ≤ j → j < len → (execOp ρ o).run P w = .ok (.value (.pointer (some (a.add (j.toNat * sz))))) w := fun a k j e1 e2 h0 h1 => by
      simp [execOp, ho, Instr.indexAt, e1, e2, asIntOf, run_underlying hu, h0, h1, hs.1, Instr.sureAddr]
    simp only [aop] at ha
    split at ha
    · rename_i cs k j he1 he2
      rw [he1] at kx; rw [he2] at ki
      obtain ⟨a, cvs, e1, h1, h3⟩ := kx.cptr_inv; have e2 := ki.int_inv
      split at ha
      · rename_i hj
        cases ha
        refine gives_value hr (run a k j e1 e2 hj.1 hj.2) (.mkCptr (h1.drop _) fun m u hm => ?_)
        rw [add_add]; rw [List.getElem?_drop] at hm; exact h3 _ _ hm
      · cases ha
    · rename_i id off k j he1 he2
      rw [he1] at kx; rw [he2] at ki
      obtain ⟨p, hp, e1⟩ := kx.ptr_inv; have e2 := ki.int_inv
      split at ha
      · rename_i hj
        cases ha
        refine gives_value hr (run _ k j e1 e2 hj.1 hj.2) ?_
        rw [add_none, Nat.add_assoc]; exact .ptr hp
      · cases ha
    · cases ha
  · cases hc

theorem ok_eqb {op : BinOp} {t u : TypeId} {x y : Operand} (ho : o.op = .binOp op t x y u) {neg : Bool} {ax ay : AX} (hop : op = if neg then .neq else .eql) (hu : P.underlying t = some .bool) (hx : tr x = some ax) (hy : tr y = some ay)
    (ha : aop cf S ev (.eqb neg ax ay) = some (v, S')) : Gives w0 φ S' v ((execOp ρ o).run P w) := by
  have kx := hρ _ _ hx; have ky := hρ _ _ hy
  simp only [aop] at ha
  split at ha
  · rename_i a b he1 he2
    rw [he1] at kx; rw [he2] at ky
    have e1 := kx.bool_inv; have e2 := ky.bool_inv
    cases ha
    have hg := guard_ok (P := P) (w := w) op t x y (ρ x) (ρ y) (by rw [e1]; simp) (by rw [e1]; simp)
    rw [e1, e2] at hg
    refine gives_value hr (cv := .bool (if neg then a != b else a == b)) ?_ (.bool _)
    subst hop
    have he := equal_bool (w := w) hu a b
    cases neg
    · simp only [Bool.false_eq_true, if_false] at ho hg ⊢
      simp [execOp, ho, e1, e2, hg, bin_eql_bool, he]
    · simp only [if_true] at ho hg ⊢
      simp [execOp, ho, e1, e2, hg, bin_neq_bool, he]; cases a <;> cases b <;> rfl
  · cases ha

theorem ok_eqn {op : BinOp} {t u : TypeId} {x y : Operand} (ho : o.op = .binOp op t x y u) {neg : Bool} {cls : Nat} {ax ay : AX} (hop : op = if neg then .neq else .eql) (hu : nilClass P t = some cls) (hx : tr x = some ax) (hy : tr y = some ay)
    (ha : aop cf S ev (.eqn neg cls ax ay) = some (v, S')) : Gives w0 φ S' v ((execOp ρ o).run P w) := by
  have kx := hρ _ _ hx; have ky := hρ _ _ hy
  simp only [aop] at ha
  split at ha
  · rename_i a he1 he2
    cases ha
    have key := key_nil (w := w) hu he1 he2 kx ky
    have he : (Op.equal t (ρ x) (ρ y)).run P w = .ok a w := key.1 9999
    have hg := guard_ok (P := P) (w := w) op t x y (ρ x) (ρ y) key.2.1 key.2.2.1
    refine gives_value hr (cv := .bool (if neg then !a else a)) ?_ (.bool _)
    subst hop
    cases neg
    · simp only [Bool.false_eq_true, if_false] at ho hg ⊢
      simp [execOp, ho, hg, key.2.2.2.1, he]
    · simp only [if_true] at ho hg ⊢
      simp [execOp, ho, hg, key.2.2.2.2, he]
  · cases ha

end
end Go.Proofs.Ytaajlbbooneiiaa.Avm
