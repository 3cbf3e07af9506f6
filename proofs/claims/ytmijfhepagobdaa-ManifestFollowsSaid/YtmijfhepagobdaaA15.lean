/- One operation of a region, wherever it comes up. -/
import Derived.Test.YtmijfhepagobdaaA14
set_option linter.unusedVariables false
set_option linter.unusedSimpArgs false
set_option linter.unusedSectionVars false
namespace Go.Proofs.Ytmijfhepagobdaa.Avm
open Go.RowKit

section congr
variable {P : Program} {tr tr' : Operand → Option AX}
theorem trs_congr : ∀ {xs : List Operand}, (∀ x ∈ xs, tr x = tr' x) → trs tr xs = trs tr' xs
  | [], _ => rfl
  | x :: xs, h => by simp only [trs, h x (.head _), trs_congr fun y hy => h y (.tail _ hy)]
theorem partsOf_congr {pl : Nat → Option (Nat × Nat)} : ∀ {ps : List (Nat × Operand)}, (∀ p ∈ ps, tr p.2 = tr' p.2) → partsOf tr pl ps = partsOf tr' pl ps
  | [], _ => rfl
  | (i, x) :: ps, h => by
    have h1 : tr x = tr' x := h (i, x) (.head _)
    simp only [partsOf, h1, partsOf_congr fun y hy => h y (.tail _ hy)]
theorem trO_congr : ∀ {x : Option Operand}, (∀ y, x = some y → tr y = tr' y) → trO tr x = trO tr' x
  | none, _ => rfl
  | some y, h => by simp only [trO, h y rfl]
theorem compCall_congr {c : Call} (h : ∀ x ∈ c.operands, tr x = tr' x) : compCall P tr c = compCall P tr' c := by
  have ha : trs tr c.args.toList = trs tr' c.args.toList := trs_congr fun x hx => h x (by simp [Call.operands]; exact .inr (by simpa using hx))
  have hm : ∀ x ∈ c.args.toList, tr x = tr' x := fun x hx => h x (by simp [Call.operands]; exact .inr (by simpa using hx))
  unfold compCall
  split
  · rw [ha]
  · rename_i x _ hc
    rw [ha, h x (by simp [Call.operands, hc])]
  · split
    · rename_i x hcx _; rw [hm x (by rw [hcx]; exact .head _)]
    · rename_i x _ hcx _; rw [hm x (by rw [hcx]; exact .head _)]
    · rename_i x _ _ hcx _; rw [hm x (by rw [hcx]; exact .head _)]
    · rfl
  · split
    · rename_i x y t u hcx _; rw [hm x (by rw [hcx]; exact .head _), hm y (by rw [hcx]; exact .tail _ (.head _))]
    · rfl
  · split
    · rename_i x t hcx _; rw [hm x (by rw [hcx]; exact .head _)]
    · rfl
  · rw [ha]
  · rw [ha]
  · rfl
theorem compOp_congr {o : Op} (h : ∀ x ∈ o.operands, tr x = tr' x) : compOp P tr o = compOp P tr' o := by
  cases o <;> simp only [Op.operands] at h <;> simp only [compOp]
  case call c => exact compCall_congr h
  case build t ps =>
    have hp : ∀ pl, partsOf tr pl ps.toList = partsOf tr' pl ps.toList := fun pl => partsOf_congr fun p hp => h p.2 (by simp; exact ⟨p.1, by simpa using hp⟩)
    simp only [hp]
  case buildSlice t n ps =>
    have hp : ∀ pl, partsOf tr pl ps.toList = partsOf tr' pl ps.toList := fun pl => partsOf_congr fun p hp => h p.2 (by simp; exact ⟨p.1, by simpa using hp⟩)
    simp only [hp]
  case makeFunc fn first cap =>
    have hp : trs tr cap.toList = trs tr' cap.toList := trs_congr fun x hx => h x (by simp; exact .inr (by simpa using hx))
    cases fn <;> simp only [hp]
  case slice t x lo hi mx =>
    have h1 : tr x = tr' x := h x (by simp)
    have h2 : trO tr lo = trO tr' lo := trO_congr fun y hy => h y (by subst hy; simp)
    have h3 : trO tr hi = trO tr' hi := trO_congr fun y hy => h y (by subst hy; simp)
    have h4 : trO tr mx = trO tr' mx := trO_congr fun y hy => h y (by subst hy; simp)
    simp only [h1, h2, h3, h4]
  case makeMap t r => cases r <;> rfl
  all_goals (first | rfl | (simp_all; done))
end congr

def dstOf (gl : List Nat) (o : Oper) : Option Nat := match o.dst with | some d => if gl.contains d then some d else none | none => none
def insOf (P : Program) (gl al : List Nat) (ds : List (Option Nat)) (o : Oper) : AIns := ⟨dstOf gl o, opOf al o ((compOp P (opd gl ds) o.op).getD .fail), o.guard⟩

theorem compOps_get (P : Program) (gl al : List Nat) : ∀ (ops : List Oper) (ds : List (Option Nat)) (j : Nat) (o : Oper), ops[j]? = some o → (compOps P gl al ds ops)[j]? = some (insOf P gl al (ds ++ (ops.take j).map (·.dst)) o)
  | [], _, _, _, h => by simp at h
  | o' :: ops, ds, 0, o, h => by
    simp at h; subst h
    simp only [compOps, List.getElem?_cons_zero, insOf, dstOf, List.take_zero, List.map_nil, List.append_nil]
    congr 2
    cases o'.guard <;> rfl
  | o' :: ops, ds, j + 1, o, h => by
    simp only [List.getElem?_cons_succ] at h
    simp only [compOps, List.getElem?_cons_succ, List.take_succ_cons, List.map_cons]
    rw [compOps_get P gl al ops (ds ++ [o'.dst]) j o h, List.append_assoc]; rfl
theorem compOps_len (P : Program) (gl al : List Nat) : ∀ (ops : List Oper) (ds : List (Option Nat)), (compOps P gl al ds ops).length = ops.length
  | [], _ => rfl
  | o :: ops, ds => by simp only [compOps, List.length_cons, compOps_len P gl al ops]

theorem distinct_spec : ∀ {ds : List (Option Nat)}, distinct ds = true → ∀ {i j d : Nat}, ds[i]? = some (some d) → ds[j]? = some (some d) → i = j
  | [], _, i, j, d, hi, _ => by simp at hi
  | x :: ds, h, i, j, d, hi, hj => by
    have hrest : distinct ds = true := by
      cases x with
      | none => exact h
      | some x => simp only [distinct, Bool.and_eq_true] at h; exact h.2
    have hnot : ∀ k, x = some d → ds[k]? = some (some d) → False := fun k e hk => by
      subst e
      simp only [distinct, Bool.and_eq_true, Bool.not_eq_true'] at h
      have : (some d) ∈ ds := List.mem_of_getElem? hk
      have := h.1
      simp_all
    cases i with
    | zero =>
      cases j with
      | zero => rfl
      | succ j => exact (hnot j (by simpa using hi) (by simpa using hj)).elim
    | succ i =>
      cases j with
      | zero => exact (hnot i (by simpa using hj) (by simpa using hi)).elim
      | succ j => rw [distinct_spec hrest (i := i) (j := j) (d := d) (by simpa using hi) (by simpa using hj)]

theorem idx_get {α : Type} [BEq α] [LawfulBEq α] {l : List α} {x : α} {i : Nat} (h : l.idxOf? x = some i) : l[i]? = some x := by
  obtain ⟨hi, he, _⟩ := List.findIdx?_eq_some_iff_getElem.1 (show l.findIdx? (· == x) = some i from h)
  rw [List.getElem?_eq_getElem hi]; congr; exact eq_of_beq he

/-- what is told of a region's operations -/
structure Okay (N : Nat) (ops : List Oper) : Prop where
  uniq : ∀ (i j d : Nat) (a b : Oper), ops[i]? = some a → ops[j]? = some b → a.dst = some d → b.dst = some d → i = j
  low : ∀ (j d : Nat) (o : Oper), ops[j]? = some o → o.dst = some d → d < N
  grd : ∀ (j g : Nat) (b : Bool) (o : Oper), ops[j]? = some o → o.guard = some (g, b) → g < j ∧ ∃ og dg, ops[g]? = some og ∧ og.dst = some dg
  aft : ∀ (j : Nat) (o : Oper), ops[j]? = some o → ∀ e ∈ o.after, Region.binds .any e = true → e.on < j
theorem opsOk_spec {N : Nat} {ops : List Oper} (h : opsOk N ops = true) : Okay N ops := by
  simp only [opsOk, Bool.and_eq_true, List.all_eq_true, List.mem_range] at h
  have key : ∀ j o, ops[j]? = some o → ((match o.dst with | some d => decide (d < N) | none => true) = true ∧ (match o.guard with | none => true | some (g, _) => decide (g < j) && ((ops[g]?).bind (·.dst)).isSome) = true) ∧
      ∀ e ∈ o.after.toList, (!Region.binds .any e || decide (e.on < j)) = true := fun j o hj => by
    have := h.2 j (List.getElem?_eq_some_iff.1 hj).1
    simp only [hj, Bool.and_eq_true, List.all_eq_true] at this
    exact this
  refine ⟨fun i j d a b ha hb hda hdb => distinct_spec h.1 (d := d) (by simp [ha, hda]) (by simp [hb, hdb]), fun j d o hj hd => ?_, fun j g b o hj hg => ?_, fun j o hj e he hb => ?_⟩
  · have := (key j o hj).1.1; rw [hd] at this; exact of_decide_eq_true this
  · have := (key j o hj).1.2
    rw [hg] at this
    simp only [Bool.and_eq_true, decide_eq_true_eq] at this
    obtain ⟨dg, hdg⟩ := Option.isSome_iff_exists.1 this.2
    obtain ⟨og, hog, hd⟩ := Option.bind_eq_some_iff.1 hdg
    exact ⟨this.1, og, dg, hog, hd⟩
  · have := (key j o hj).2 e (Array.mem_toList_iff.2 he)
    simp only [hb, Bool.not_true, Bool.false_or, decide_eq_true_eq] at this
    exact this

/-- what stands in the temporaries when those of Lst are done -/
structure RInv (w0 : World) (gl : List Nat) (N : Nat) (ops : List Oper) (g : Frame) (st : Nat → St) (Lst : Nat → Prop) (φ : Pc) (a : Act) : Prop where
  size : a.tmps.size = N
  defers : a.defers = []
  val : ∀ (i d : Nat) (o : Oper) (v : AV), Lst i → ops[i]? = some o → o.dst = some d → (st (i + 1)).L = (st i).L ++ [v] → V w0 φ v (a.tmps.getD d undef)
  slot : ∀ t, t ∈ gl → (∀ (i : Nat) (o : Oper), Lst i → ops[i]? = some o → o.dst ≠ some t) → V w0 φ (g t) (a.tmps.getD t undef)

section
variable {P : Program} {w0 w : World} {φ : Pc} {gl al : List Nat} {N : Nat} {ops : List Oper} {g : Frame} {S : Store} {st : Nat → St} {cf : CallF} {Lst : Nat → Prop} {a : Act}

theorem RInv.put (hi : RInv w0 gl N ops g st Lst φ a) (hk : Okay N ops) {j : Nat} {o : Oper} (hj : ops[j]? = some o) (hn : ¬ Lst j) {φ' : Pc} (hx : Ext φ φ') {v : AV} {cv : Value} (hv : (st (j + 1)).L = (st j).L ++ [v]) (hV : V w0 φ' v cv) :
    RInv w0 gl N ops g st (fun i => Lst i ∨ i = j) φ' (a.put o.dst cv) := by
  have get_ne : ∀ t, o.dst ≠ some t → (a.put o.dst cv).tmps.getD t undef = a.tmps.getD t undef := fun t ht => by
    cases hd : o.dst with
    | none => rfl
    | some d =>
      have : d ≠ t := fun e => ht (by rw [hd, e])
      simp [Act.put, Array.getElem?_setIfInBounds_ne this]
  have get_eq : ∀ d, o.dst = some d → (a.put o.dst cv).tmps.getD d undef = cv := fun d hd => by
    have := hk.low j d o hj hd
    rw [hd]; simp [Act.put, hi.size, this]
  refine ⟨?_, ?_, fun i d o' v' hl ho' hd' hv' => ?_, fun t ht hno => ?_⟩
  · cases hd : o.dst <;> simp [Act.put, hi.size]
  · cases hd : o.dst <;> simp [Act.put, hi.defers]
  · rcases hl with hl | rfl
    · by_cases e : o.dst = some d
      · have := hk.uniq i j d o' o ho' hj hd' e; subst this; exact absurd hl hn
      · rw [get_ne d e]; exact (hi.val i d o' v' hl ho' hd' hv').mono hx
    · rw [hj] at ho'; cases ho'
      rw [get_eq d hd']
      rw [hv] at hv'
      have : v = v' := by simpa using hv'
      subst this; exact hV
  · rw [get_ne t (hno j o (.inr rfl) hj)]
    exact (hi.slot t ht fun i o' hl => hno i o' (.inl hl)).mono hx

variable (hT : Tr cf g S (compOps P gl al [] ops) st) (hk : Okay N ops)
include hT hk

theorem opd_V (hi : RInv w0 gl N ops g st Lst φ a) {j : Nat} {o : Oper} (hj : ops[j]? = some o) {x : Operand} {ax : AX} (hx : opd gl ((ops.take j).map (·.dst)) x = some ax)
    (h1 : ∀ (t i : Nat) (o' : Oper), x = .tmp t → i < j → ops[i]? = some o' → o'.dst = some t → Lst i) (h2 : ∀ (t i : Nat) (o' : Oper), x = .tmp t → j ≤ i → ops[i]? = some o' → o'.dst = some t → ¬ Lst i) :
    V w0 φ (ev (st j).g (st j).L ax) (a.eval x) := by
  have hjl : j < ops.length := (List.getElem?_eq_some_iff.1 hj).1
  have hlen := compOps_len P gl al ops []
  cases x with
  | tmp t =>
    simp only [opd] at hx
    split at hx
    · rename_i hgl
      cases hx
      have hgl' : t ∈ gl := by simpa using hgl
      simp only [ev, Act.eval]
      by_cases hex : ∃ i o', i < j ∧ ops[i]? = some o' ∧ o'.dst = some t
      · obtain ⟨i, o', hij, ho', hd⟩ := hex
        have hl := h1 t i o' rfl hij ho' hd
        obtain ⟨ins, v, hins, hv, _⟩ := hT.val (j := i) (by rw [hlen]; omega)
        have hget := compOps_get P gl al ops [] i o' ho'
        have hdst : (insOf P gl al ([] ++ (ops.take i).map (·.dst)) o').dst = some t := by simp only [insOf, dstOf, hd, hgl, if_true]
        rw [hT.slot_new hget hdst hv j hij (by rw [hlen]; omega) fun k q hik hkj hq hqd => ?_]
        · exact hi.val i t o' v hl ho' hd hv
        · have hok : ops[k]? = some ops[k] := List.getElem?_eq_getElem (show k < ops.length by omega)
          have hgk := compOps_get P gl al ops [] k _ hok
          rw [hgk] at hq; cases hq
          have : (ops[k]'(by omega)).dst = some t := by
            simp only [insOf, dstOf] at hqd
            split at hqd
            · rename_i d hd'
              split at hqd
              · cases hqd; exact hd'
              · cases hqd
            · cases hqd
          have := hk.uniq i k t o' _ ho' hok hd this
          omega
      · rw [hT.slot_old j (by rw [hlen]; omega) fun i q hij hq hqd => ?_]
        · refine hi.slot t hgl' fun i o' hl ho' hd => ?_
          by_cases hij : i < j
          · exact hex ⟨i, o', hij, ho', hd⟩
          · exact h2 t i o' rfl (by omega) ho' hd hl
        · have hok : ops[i]? = some ops[i] := List.getElem?_eq_getElem (show i < ops.length by omega)
          have hgk := compOps_get P gl al ops [] i _ hok
          rw [hgk] at hq; cases hq
          refine hex ⟨i, _, hij, hok, ?_⟩
          simp only [insOf, dstOf] at hqd
          split at hqd
          · rename_i d hd'
            split at hqd
            · cases hqd; exact hd'
            · cases hqd
          · cases hqd
    · rename_i hgl
      obtain ⟨i, hidx, rfl⟩ := Option.map_eq_some_iff.1 hx
      have hget : ((ops.take j).map (·.dst))[i]? = some (some t) := by
        exact idx_get hidx
      rw [List.getElem?_map, List.getElem?_take] at hget
      split at hget
      · rename_i hij
        obtain ⟨o', ho', hd⟩ := Option.map_eq_some_iff.1 hget
        obtain ⟨ins, v, hins, hv, hLv, _⟩ := hT.val (j := i) (by rw [hlen]; omega)
        simp only [ev, Act.eval]
        rw [List.getD_eq_getElem?_getD, hLv j hij (by rw [hlen]; omega)]
        exact hi.val i t o' v (h1 t i o' rfl hij ho' hd) ho' hd hv
      · simp at hget
  | const v =>
    simp only [opd, Option.map_eq_some_iff] at hx
    obtain ⟨b, hb, rfl⟩ := hx
    exact constAV_V hb
  | func f =>
    simp only [opd, Option.some.injEq] at hx; subst hx
    exact .fn (cvs := []) rfl fun j v cv h => by simp at h
  | global n => simp [opd] at hx

/-- whether it is wanted -/
theorem wanted_V (hi : RInv w0 gl N ops g st Lst φ a) {j : Nat} {o : Oper} (hj : ops[j]? = some o) (hg : ∀ q b, o.guard = some (q, b) → Lst q) {b : Bool} (hb : wantA (insOf P gl al ((ops.take j).map (·.dst)) o) (st j).L = some b) :
    Region.wanted o (yielded ops.toArray a.tmps) = b := by
  have hlen := compOps_len P gl al ops []
  have hjl : j < ops.length := (List.getElem?_eq_some_iff.1 hj).1
  unfold Region.wanted
  simp only [wantA, insOf] at hb
  cases hgd : o.guard with
  | none => simp only [hgd, Option.some.injEq] at hb; simpa using hb
  | some p =>
    obtain ⟨q, want⟩ := p
    simp only [hgd] at hb ⊢
    obtain ⟨hqj, og, dg, hog, hdg⟩ := hk.grd j q want o hj hgd
    obtain ⟨ins, v, hins, hv, hLv, _⟩ := hT.val (j := q) (by rw [hlen]; omega)
    have hV := hi.val q dg og v (hg q want hgd) hog hdg hv
    have hdN := hk.low q dg og hog hdg
    have hget : (st j).L.getD q .undef = v := by rw [List.getD_eq_getElem?_getD, hLv j hqj (by rw [hlen]; omega)]; rfl
    rw [hget] at hb
    have hy : yielded ops.toArray a.tmps q = match a.tmps.getD dg undef with | .bool t => some t | _ => none := by
      unfold yielded
      have h1 : ((ops.toArray[q]?).bind (·.dst)) = some dg := by simp [hog, hdg]
      have h2 : a.tmps[dg]? = some (a.tmps.getD dg undef) := by
        rw [Array.getD_eq_getD_getElem?, Array.getElem?_eq_getElem (by rw [hi.size]; exact hdN)]; rfl
      rw [h1, Option.bind_some, h2]
      cases a.tmps.getD dg undef <;> rfl
    rw [hy]
    generalize a.tmps.getD dg undef = cv at hV
    cases v with
    | bool t =>
      simp only [Option.some.injEq] at hb; subst hb
      rw [hV.bool_inv]
      cases t <;> cases want <;> rfl
    | tup vs =>
      simp only [Option.some.injEq] at hb; subst hb
      obtain ⟨cvs, rfl, _⟩ := hV.tup_inv
      rfl
    | _ => cases hb

end

end Go.Proofs.Ytmijfhepagobdaa.Avm
