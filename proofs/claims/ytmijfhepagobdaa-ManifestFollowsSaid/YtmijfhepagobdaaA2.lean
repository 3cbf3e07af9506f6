/- From the program's own code to the abstract machine's: types looked up, temporaries of a region by their place. -/
import Derived.Test.YtmijfhepagobdaaA1
import Derived.Orders
namespace Go.Proofs.Ytmijfhepagobdaa.Avm

def constS : Value → Option AV
  | .int k n => some (.int k n)
  | .bool b => some (.bool b)
  | .string s => some (.str s.data.toList)
  | .pointer none => some .nilP
  | .slice none 0 0 => some .nilS
  | .map none => some .nilM
  | .chan none => some .nilC
  | .nilFunc => some .nilF
  | .nilIface => some .nilI
  | _ => none

def constSs : List Value → Option (List AV)
  | [] => some []
  | v :: vs => (constS v).bind fun a => (constSs vs).map (a :: ·)

def constAV : Value → Option AV
  | .agg cs => (constSs cs.toList).map .agg
  | v => constS v

def zeroCells (P : Program) (t : TypeId) : Option (List AV) := (P.info? t).bind fun i => i.zero.bind fun z => constSs z.cells.toList
def zeroAV (P : Program) (t : TypeId) : Option AV := (P.info? t).bind fun i => i.zero.bind constAV
def szOf (P : Program) (t : TypeId) : Option Nat := (P.info? t).bind fun i => if 0 < i.size then some i.size else none
def isAggB (P : Program) (t : TypeId) : Option Bool :=
  match P.underlying t with
  | some (.struct _) | some (.array _ _) => some true
  | some _ => some false
  | none => none

/-- a struct whose fields are scalars, one cell each, compared one by one: their kinds -/
def scalarFields (P : Program) : Nat → List Field → Option (List Nat)
  | _, [] => some []
  | i, f :: fs => if f.offset = i ∧ f.name ≠ "_" then
      (match P.underlying f.type with | some (.int _) => some 0 | some .string => some 1 | some .bool => some 2 | _ => none).bind fun k => (scalarFields P (i + 1) fs).map (k :: ·) else none
def scalarStruct (P : Program) (t : TypeId) : Option (List Nat) :=
  match P.underlying t with
  | some (.struct fs) => if P.stoodInHeld t = false ∧ P.eqGuardType P.depth t = false then scalarFields P 0 fs.toList else none
  | _ => none

def nilClass (P : Program) (t : TypeId) : Option Nat :=
  match P.underlying t with
  | some (.pointer _) => some 0
  | some (.slice _) => some 1
  | some (.map _ _) => some 2
  | some (.chan _ _) => some 3
  | some (.func _ _ _) => some 4
  | _ => none

def keyKind (P : Program) (t : TypeId) : Option (List Nat) :=
  match P.underlying t with
  | some (.int _) => some [0]
  | some .string => some [1]
  | _ => none

def places (P : Program) (fs : List Field) : Option (List (Nat × Nat)) :=
  match fs with
  | [] => some []
  | f :: fs => (P.info? f.type).bind fun i => (places P fs).map ((f.offset, i.size) :: ·)

def partsOf (tr : Operand → Option AX) (pl : Nat → Option (Nat × Nat)) : List (Nat × Operand) → Option (List (Nat × Nat × AX))
  | [] => some []
  | (i, x) :: rest => (pl i).bind fun (off, n) => (tr x).bind fun ax => if 0 < n then (partsOf tr pl rest).map ((off, n, ax) :: ·) else none

def trs (tr : Operand → Option AX) : List Operand → Option (List AX)
  | [] => some []
  | x :: xs => (tr x).bind fun a => (trs tr xs).map (a :: ·)

def trO (tr : Operand → Option AX) : Option Operand → Option (Option AX)
  | none => some none
  | some x => (tr x).map some

def repCells (z : List AV) : Nat → List AV
  | 0 => []
  | n + 1 => z ++ repCells z n

def compCall (P : Program) (tr : Operand → Option AX) (c : Call) : Option AOp :=
  match c.callee with
  | .value (.func f) => (trs tr c.args.toList).map fun as => .call f as
  | .value x => (tr x).bind fun ax => (trs tr c.args.toList).map fun as => .callv ax as
  | .builtin .len => match c.args.toList, (c.argTypes[0]?).bind P.underlying with
    | [x], some .string => (tr x).map (.len true)
    | [x], some (.slice _) => (tr x).map (.len false)
    | [x], some (.map _ _) => (tr x).map .mlen
    | _, _ => none
  | .builtin .append => match c.args.toList, c.argTypes.toList with
    | [x, y], [t, u] => match P.underlying t, P.underlying u with
      | some (.slice _), some (.int _) => none
      | some (.slice e), some _ => (P.info? e).bind fun i => (zeroCells P e).bind fun z => if 0 < i.size ∧ 0 < i.bytes ∧ z.length = i.size then (tr x).bind fun ax => (tr y).map fun ay => .append i.size i.bytes ax ay else none
      | _, _ => none
    | _, _ => none
  | .builtin .clear => match c.args.toList, c.argTypes.toList with
    | [x], [t] => match P.underlying t with
      | some (.slice e) => (zeroCells P e).bind fun z => (szOf P e).bind fun sz => if z.length = sz then (tr x).map fun ax => .clear sz z ax else none
      | _ => none
    | _, _ => none
  | .builtin .max => (trs tr c.args.toList).map fun as => .mx true as
  | .builtin .min => (trs tr c.args.toList).map fun as => .mx false as
  | _ => none

def compOp (P : Program) (tr : Operand → Option AX) (o : Op) : Option AOp :=
  match o with
  | .move x | .assign x => (tr x).map .mv
  | .pick c a b => (tr c).bind fun c => (tr a).bind fun a => (tr b).map fun b => .pick c a b
  | .alloc e => (zeroCells P e).map .new
  | .box e x => (szOf P e).bind fun n => (tr x).map (.box n)
  | .build t ps => match P.underlying t with
    | some (.struct fs) => (zeroCells P t).bind fun z => (places P fs.toList).bind fun pl => (partsOf tr (pl[·]?) ps.toList).map fun ps => .build z ps
    | some (.array _ e) => (zeroCells P t).bind fun z => (szOf P e).bind fun sz => (partsOf tr (fun i => some (i * sz, sz)) ps.toList).map fun ps => .build z ps
    | _ => none
  | .buildSlice t len ps => match P.underlying t with
    | some (.slice e) => (zeroCells P e).bind fun z => (szOf P e).bind fun sz => if z.length = sz ∧ len * sz ≤ 16777216 then (partsOf tr (fun i => some (i * sz, sz)) ps.toList).map fun ps => .lit sz len (repCells z len) ps else none
    | _ => none
  | .load t a => (isAggB P t).bind fun b => (szOf P t).bind fun n => (tr a).map fun ax => .load b n ax
  | .store t a v => (szOf P t).bind fun n => (tr a).bind fun ax => (tr v).map fun ay => .store n ax ay
  | .nilCheck x => (tr x).map .nilck
  | .binOp op t x y _ => (tr x).bind fun ax => (tr y).bind fun ay => match P.underlying t with
    | some (.int _) | some .string => some (.bin op ax ay)
    | some .bool => match op with
      | .eql => some (.eqb false ax ay)
      | .neq => some (.eqb true ax ay)
      | _ => none
    | some (.struct _) => match op with
      | .eql => (scalarStruct P t).map fun n => .eqs false n ax ay
      | .neq => (scalarStruct P t).map fun n => .eqs true n ax ay
      | _ => none
    | _ => match op with
      | .eql => (nilClass P t).map fun c => .eqn false c ax ay
      | .neq => (nilClass P t).map fun c => .eqn true c ax ay
      | _ => none
  | .unOp op _ x => (tr x).map (.una op)
  | .convert s d x => (tr x).bind fun ax => match P.underlying s, P.underlying d with
    | some (.int _), some (.int k) => some (.i2i k ax)
    | some .string, some .string => some (.same ax)
    | some .string, some (.slice e) => match P.underlying e with
      | some (.int .u8) => some (.s2b ax)
      | _ => none
    | some (.slice e), some .string => match P.underlying e with
      | some (.int .u8) => some (.b2s ax)
      | _ => none
    | some (.slice _), some (.slice e) => match P.underlying e with
      | some (.int .u8) => if s = d then some (.mark ax) else none
      | _ => none
    | _, _ => none
  | .makeFunc (.func f) first cap => if first.size = 0 then (trs tr cap.toList).map fun as => .mkfn f as else none
  | .makeMap _ none => some .mkmap
  | .makeSlice t l c => match P.underlying t with
    | some (.slice e) => (P.info? e).bind fun i => (zeroCells P e).bind fun z => if 0 < i.size ∧ 0 < i.bytes ∧ z.length = i.size then (tr l).bind fun al => (tr c).map fun ac => .mksl i.size i.bytes z al ac else none
    | _ => none
  | .slice t x lo hi mx => match P.underlying t with
    | some .string => match mx with
      | none => (tr x).bind fun ax => (trO tr lo).bind fun lo => (trO tr hi).map fun hi => .sslice ax lo hi
      | some _ => none
    | some (.slice e) => (szOf P e).bind fun sz => (tr x).bind fun ax => (trO tr lo).bind fun lo => (trO tr hi).bind fun hi => (trO tr mx).map fun mx => .slice sz ax lo hi mx
    | _ => none
  | .fieldAddr t x f => match P.underlying t with
    | some (.struct fs) => (fs[f]?).bind fun fd => (szOf P fd.type).bind fun _ => (tr x).map fun ax => .faddr fd.offset ax
    | _ => none
  | .field t x f => match P.underlying t with
    | some (.struct fs) => (fs[f]?).bind fun fd => (isAggB P fd.type).bind fun b => (szOf P fd.type).bind fun n => (tr x).map fun ax => .field b fd.offset n ax
    | _ => none
  | .indexAddr t x i => match P.underlying t with
    | some (.slice e) => (szOf P e).bind fun sz => (tr x).bind fun ax => (tr i).map fun ai => .iaddr sz ax ai
    | some (.array len e) => (szOf P e).bind fun sz => (tr x).bind fun ax => (tr i).map fun ai => .aaddr len sz ax ai
    | _ => none
  | .index t x i => match P.underlying t with
    | some .string => (tr x).bind fun ax => (tr i).map fun ai => .sidx ax ai
    | _ => none
  | .lookup t m k ok => match P.underlying t with
    | some (.map kt e) => (keyKind P kt).bind fun kk => (zeroAV P e).bind fun z => (tr m).bind fun am => (tr k).map fun ak => .look kk z ok am ak
    | _ => none
  | .mapUpdate t m k v => match P.underlying t with
    | some (.map kt _) => (keyKind P kt).bind fun kk => (tr m).bind fun am => (tr k).bind fun ak => (tr v).map fun av => .mapu kk am ak av
    | _ => none
  | .extract t i => (tr t).map fun ax => .ext ax i
  | .call c => compCall P tr c
  | _ => none

/-- an operand: a slot that lives on, or what an earlier operation of the region gave -/
def opd (gl : List Nat) (ds : List (Option Nat)) : Operand → Option AX
  | .tmp t => if gl.contains t then some (.v t) else (ds.idxOf? (some t)).map .l
  | .const v => (constAV v).map .k
  | .func f => some (.k (.fn f []))
  | .global _ => none

/-- rows that are made and never turned are made for good -/
def frz : AOp → AOp
  | .s2b x => .s2bf x
  | .lit a b c d => .litf a b c d
  | .slice sz x (some lo) (some hi) none => .slicex sz x lo hi
  | o => o
def frzN : AOp → AOp
  | .lit a b c d => .litn a b c d
  | o => o
def isTmp (d : Nat) : Operand → Bool
  | .tmp t => t == d
  | _ => false
/-- does an operation take that slot's row so that it may be turned, or hand it on? -/
def turns (d : Nat) (o : Op) : Bool :=
  match o with
  | .move x | .assign x => isTmp d x
  | .pick _ a b => isTmp d a || isTmp d b
  | .slice _ x _ _ _ => isTmp d x
  | .store _ _ v => isTmp d v
  | .mapUpdate _ _ _ v => isTmp d v
  | .box _ v => isTmp d v
  | .call c => match c.callee with
    | .builtin _ => (c.args.toList.take 1).any (isTmp d)
    | _ => false
  | _ => false
/-- the slots whose rows are made for good -/
def goodSlots (gl : List Nat) (ops : List Oper) : List Nat :=
  ops.filterMap fun o => match o.dst with
    | some d => if gl.contains d then none else match o.op with
      | .buildSlice _ _ _ | .convert _ _ _ => if gl.contains (d + 1000000) then some (2 * d) else if ops.any (fun p => turns d p.op) then none else
          if ops.any (fun p => match p.op with | .convert _ _ x => isTmp d x | _ => false) then some (2 * d + 1) else some (2 * d)
      | .slice _ _ (some (.tmp a)) (some _) none => if ops.any (fun p => p.dst == some a && (match p.op with | .call c => (match c.callee with | .builtin .len => true | _ => false) | _ => false)) then some (2 * d) else none
      | _ => none
    | none => none

def makesRow : Op → Bool
  | .buildSlice _ _ _ | .convert _ _ _ => true
  | .slice _ _ _ _ _ => true
  | _ => false
def opOf (al : List Nat) (o : Oper) (ao : AOp) : AOp := match o.dst with | some d => if al.contains (2 * d) && makesRow o.op then frz ao else if al.contains (2 * d + 1) && makesRow o.op then frzN ao else ao | none => ao
/-- the operations of a region; ds: the places that the operations ahead have written -/
def compOps (P : Program) (gl al : List Nat) : List (Option Nat) → List Oper → List AIns
  | _, [] => []
  | ds, o :: rest =>
    ⟨match o.dst with | some d => if gl.contains d then some d else none | none => none,
     opOf al o ((compOp P (opd gl ds) o.op).getD .fail),
     match o.guard with
      | none => none
      | some (j, b) => some (j, b)⟩ :: compOps P gl al (ds ++ [o.dst]) rest

/-- what an operation looks at -/
def looksAt (ops : List Oper) (o : Oper) : List Nat :=
  (o.op.operands.toList.filterMap fun | .tmp t => some t | _ => none) ++ (match o.guard with | some (j, _) => ((ops[j]?).bind (·.dst)).toList | none => [])

def isEvent : AOp → Bool
  | .new _ | .box _ _ | .lit _ _ _ _ | .store _ _ _ | .s2b _ | .mkmap | .mksl _ _ _ _ _ | .mapu _ _ _ _ | .append _ _ _ _ | .clear _ _ _ | .call _ _ | .callv _ _ => true
  | _ => false
def isRead : AOp → Bool
  | .load _ _ _ | .look _ _ _ _ _ | .mlen _ | .b2s _ | .slicex _ _ _ _ => true
  | _ => false

/-- the operations ahead that an operation waits for, over and over -/
def ancs : List (List Nat) → List Oper → List (List Nat)
  | acc, [] => acc
  | acc, o :: rest =>
    let ds := (o.after.toList.filter (Region.binds .any)).map (·.on)
    ancs (acc ++ [ds ++ ds.flatMap fun d => acc.getD d []]) rest

def sep (ops : List Oper) (x y : Oper) : Bool :=
  match x.dst with
  | some d => !(looksAt ops y).contains d && (y.dst != some d)
  | none => true

/-- one pair of operations, i ahead of j in the text -/
def pairOk (ops : List Oper) (anc : List (List Nat)) (ins : List AIns) (fl : List (Nat × Nat)) (i j : Nat) : Bool :=
  (anc.getD j []).contains i ||
  match ops[i]?, ops[j]?, ins[i]?, ins[j]? with
  | some x, some y, some a, some b =>
    sep ops x y && sep ops y x && !(isEvent a.op && isEvent b.op) &&
    (!(isRead a.op && isEvent b.op) || fl.contains (i, j)) && (!(isEvent a.op && isRead b.op) || fl.contains (j, i))
  | _, _, _, _ => false

/-- the loads that may come up on either side of an event -/
def flOf (anc : List (List Nat)) (ins : List AIns) : List (Nat × Nat) :=
  (List.range ins.length).flatMap fun i => (List.range ins.length).filterMap fun j =>
    match ins[i]?, ins[j]? with
    | some a, some b => if isRead a.op && isEvent b.op && !(anc.getD j []).contains i && !(anc.getD i []).contains j then some (i, j) else none
    | _, _ => none

def drawOk (ops : List Oper) (ins : List AIns) (fl : List (Nat × Nat)) : Bool :=
  let anc := ancs [] ops
  (List.range ops.length).all fun j => (List.range j).all fun i => pairOk ops anc ins fl i j

def distinct (ds : List (Option Nat)) : Bool :=
  match ds with
  | [] => true
  | none :: ds => distinct ds
  | some d :: ds => !ds.contains (some d) && distinct ds

/-- bounds, guards, distinct places -/
def opsOk (N : Nat) (ops : List Oper) : Bool :=
  distinct (ops.map (·.dst)) &&
  (List.range ops.length).all fun j => match ops[j]? with
    | some o => (match o.dst with | some d => decide (d < N) | none => true) &&
      (match o.guard with | none => true | some (g, _) => decide (g < j) && ((ops[g]?).bind (·.dst)).isSome) &&
      o.after.toList.all fun e => !Region.binds .any e || decide (e.on < j)
    | none => false

def compRegion (P : Program) (gl : List Nat) (N : Nat) (ops : List Oper) (draw : Bool) : ACode :=
  let ins := compOps P gl (goodSlots gl ops) [] ops
  let fl := if draw then flOf (ancs [] ops) ins else []
  if opsOk N ops && (!draw || drawOk ops ins fl) then .region ins fl else .fail

def compCode (P : Program) (gl : List Nat) (N : Nat) : Code → ACode
  | .skip => .skip
  | .region _ ops draw => compRegion P gl N ops.toList draw
  | .seq a b => .seq (compCode P gl N a) (compCode P gl N b)
  | .cond c a b => match opd gl [] c with
    | some ax => .cond ax (compCode P gl N a) (compCode P gl N b)
    | none => .fail
  | .block id c => .block id (compCode P gl N c)
  | .loop c => .loop (compCode P gl N c)
  | .exit id => .exit id
  | .ret => .ret
  | _ => .fail

def compRes (P : Program) (gl : List Nat) : List ResultVar → Option (List ARes)
  | [] => some []
  | .tmp t :: rest => if gl.contains t then (compRes P gl rest).map (.tmp t :: ·) else none
  | .cell a t :: rest => if gl.contains a then (isAggB P t).bind fun b => (szOf P t).bind fun n => (compRes P gl rest).map (.cell b n a :: ·) else none

def compF (P : Program) (gl : List Nat) (fn : Func) : Option AFunc :=
  match fn.body, compRes P gl fn.results.toList with
  | some c, some rs =>
    let np := fn.params.size + fn.nfree
    if np ≤ fn.ntmps && fn.name != "runtime.NumGoroutine" then some ⟨np, compCode P gl fn.ntmps c, rs⟩ else none
  | _, _ => none

/-! ### which slots live on -/
def opTmps (o : Oper) : List Nat := o.op.operands.toList.filterMap fun | .tmp t => some t | _ => none
def glOps : List (Option Nat) → List Oper → List Nat
  | _, [] => []
  | ds, o :: rest => ((opTmps o).filter fun t => !ds.contains (some t)) ++ glOps (ds ++ [o.dst]) rest
def glCode : Code → List Nat
  | .region _ ops _ => glOps [] ops.toList
  | .seq a b => glCode a ++ glCode b
  | .cond c a b => (match c with | Operand.tmp t => [t] | _ => []) ++ glCode a ++ glCode b
  | .block _ c => glCode c
  | .loop c => glCode c
  | _ => []
def insN (n : Nat) : List Nat → List Nat
  | [] => [n]
  | m :: l => if n = m then m :: l else if n < m then n :: m :: l else m :: insN n l
def glFunc (fn : Func) : List Nat :=
  ((fn.body.map glCode).getD [] ++ fn.results.toList.map fun | ResultVar.tmp t => t | ResultVar.cell a _ => a).foldr insN []

end Go.Proofs.Ytmijfhepagobdaa.Avm
