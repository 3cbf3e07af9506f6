/- Operations that make or write memory. -/
import Derived.Test.YtmijfhepagobdaaA10
import Derived.Laws.IdiomStrings
import Derived.Laws.MakeOwn
set_option linter.unusedVariables false
set_option linter.unusedSimpArgs false
set_option linter.unusedSectionVars false
namespace Go.Proofs.Ytmijfhepagobdaa.Avm
open Go.RowKit

/-- the same cells over and over -/
theorem made_flat (z : Array Value) (hz : 0 < z.size) : ∀ n, (madeCells z (n * z.size)).toList = (List.replicate n z.toList).flatten
  | 0 => by simp [madeCells]
  | n + 1 => by
    rw [List.replicate_succ', List.flatten_append, ← made_flat z hz n]
    simp only [madeCells, Array.toList_map, Array.toList_range, Nat.add_mul, Nat.one_mul, List.range_add, List.map_append, List.flatten_cons, List.flatten_nil, List.append_nil, List.map_map]
    congr 1
    apply List.ext_getElem?
    intro i
    simp only [List.getElem?_map]
    by_cases h : i < z.size
    · rw [List.getElem?_range h]
      simp only [Option.map_some, Function.comp]
      have : (n * z.size + i) % z.size = i := by rw [Nat.add_comm, Nat.add_mul_mod_self_right]; exact Nat.mod_eq_of_lt h
      rw [this]
      simp [h]
    · rw [List.getElem?_eq_none (by simpa using h), List.getElem?_eq_none (by simpa using h)]; rfl
theorem zeroCells_made (z : Array Value) (n : Nat) : Builtin.zeroCells z n = madeCells z (n * z.size) := rfl
theorem repCells_eq (z : List AV) : ∀ n, repCells z n = (List.replicate n z).flatten
  | 0 => rfl
  | n + 1 => by simp [repCells, List.replicate_succ, repCells_eq z n]
theorem rep_V {w0 : World} {φ : Pc} {z : List AV} {cz : List Value} (h : Vc w0 φ z cz) : ∀ n, Vc w0 φ (List.replicate n z).flatten (List.replicate n cz).flatten
  | 0 => .nil
  | n + 1 => by simp only [List.replicate_succ, List.flatten_cons]; exact h.append (rep_V h n)
theorem bytes_V {w0 : World} {φ : Pc} : ∀ (s : List UInt8), Vc w0 φ (s.map fun c => AV.int .u8 c.toNat) (s.map fun c => Value.int .u8 c.toNat)
  | [] => .nil
  | c :: s => .cons (.int _ _) rfl (bytes_V s)
theorem Vc.ones {w0 : World} {φ : Pc} {cs : List AV} {cvs : List Value} (h : Vc w0 φ cs cvs) : ∀ u ∈ cvs, u.oneCell' = true := h.2

section
variable {P : Program} {w0 w : World} {φ : Pc} {S S' : Store} {ev : AX → AV} {ρ : Operand → Value} {tr : Operand → Option AX} {cf : CallF} {o : Oper} {v : AV}
  (hr : Rel w0 φ S w) (hρ : ∀ x ax, tr x = some ax → V w0 φ (ev ax) (ρ x))

theorem drew_grown (w : World) : w.grownBy w.drew none := ⟨rfl, rfl, rfl, Nat.le_refl _, fun _ _ _ => rfl⟩

theorem last_place (hr : Rel w0 φ S w) (p : Pl) : (φ.snoc p).pl[S.length]? = some p := by rw [← hr.len]; simp [Pc.snoc]

include hr hρ

theorem ok_new {e : TypeId} (ho : o.op = .alloc e) {ao : AOp} (hc : compOp P tr o.op = some ao) (ha : aop cf S ev ao = some (v, S')) : Gives w0 φ S' v ((execOp ρ o).run P w) := by
  rw [ho] at hc
  obtain ⟨cs, hz, rfl⟩ := Option.map_eq_some_iff.1 hc
  simp only [aop, Option.some.injEq, Prod.mk.injEq] at ha
  obtain ⟨rfl, rfl⟩ := ha
  obtain ⟨z, hzr, hzc⟩ := run_zero (w := w) hz
  have hal := hr.alloc (constSs_V (w0 := w0) (φ := φ) hzc) e 0 []
  simp only [List.append_nil, List.length_nil, Nat.add_zero, Array.toArray_toList] at hal
  refine ⟨_, .pointer (some ⟨w.heap.size, 0, none⟩), _, .inl ?_, .snoc _ _, hal, ?_⟩
  · simp [execOp, ho, Instr.alloc, hzr, newVar, newRow]
  · exact V.ptr (last_place hr _)

theorem ok_box {e : TypeId} {x : Operand} (ho : o.op = .box e x) {ao : AOp} (hc : compOp P tr o.op = some ao) (ha : aop cf S ev ao = some (v, S')) : Gives w0 φ S' v ((execOp ρ o).run P w) := by
  rw [ho] at hc
  simp only [compOp, Option.bind_eq_some_iff, Option.map_eq_some_iff] at hc
  obtain ⟨n, hn, ax, hx, rfl⟩ := hc
  simp only [aop] at ha
  split at ha
  · rename_i hl
    simp only [Option.some.injEq, Prod.mk.injEq] at ha
    obtain ⟨rfl, rfl⟩ := ha
    have hpos := (run_size (P := P) (w := w) hn).2
    have hV := (hρ _ _ hx).cells (fun e' => by rw [e'] at hl; simp at hl; omega)
    have hal := hr.alloc hV e 0 []
    simp only [List.append_nil, List.length_nil, Nat.add_zero, Array.toArray_toList] at hal
    refine ⟨_, .pointer (some ⟨w.heap.size, 0, none⟩), _, .inl ?_, .snoc _ _, hal, ?_⟩
    · simp [execOp, ho, Instr.box, newVar, newRow]
    · exact V.ptr (last_place hr _)
  · cases ha

theorem ok_lit {t : TypeId} {len : Nat} {ps : Array (Nat × Operand)} (ho : o.op = .buildSlice t len ps) {ao : AOp} (hc : compOp P tr o.op = some ao) (ha : aop cf S ev ao = some (v, S')) : Gives w0 φ S' v ((execOp ρ o).run P w) := by
  rw [ho] at hc
  simp only [compOp] at hc
  split at hc
  · rename_i e hu
    simp only [Option.bind_eq_some_iff] at hc
    obtain ⟨z, hz, sz, hsz, hc⟩ := hc
    split at hc
    · rename_i hb
      obtain ⟨aps, hps, rfl⟩ := Option.map_eq_some_iff.1 hc
      simp only [aop] at ha
      split at ha
      · obtain ⟨cs, hf, hh⟩ := Option.map_eq_some_iff.1 ha; cases hh
        obtain ⟨zv, hzr, hzc⟩ := run_zero (w := w) hz
        have hzV := constSs_V (w0 := w0) (φ := φ) hzc
        have hzl : zv.cells.size = sz := by have := hzV.1.1; simp at this; omega
        obtain ⟨hsr, hsp⟩ := run_size (P := P) (w := w) hsz
        have hmade : Vc w0 φ (repCells z len) (madeCells zv.cells (len * sz)).toList := by
          rw [repCells_eq, ← hzl, made_flat _ (by omega)]; exact rep_V hzV len
        obtain ⟨ccs, q1, q2⟩ := fill_rel hρ (place := fun i => some (i * sz, sz)) (pl := fun i => some (i * sz, sz)) (fun i q h => h) _ _ _ _ _ hps hf hmade
        have hal := hr.alloc q2 e 0 []
        simp only [List.append_nil, List.length_nil, Nat.add_zero, Array.toArray_toList] at hal
        have hcl : ccs.size = cs.length := by have := q2.1.1; simp at this; omega
        have hcs : cs.length = len * sz := by
          have : ∀ (aps : List (Nat × Nat × AX)) (a b : List AV), fillA ev a aps = some b → b.length = a.length := by
            intro aps
            induction aps with
            | nil => intro a b h; cases h; rfl
            | cons p aps ih =>
              intro a b h
              obtain ⟨off, n, x⟩ := p
              simp only [fillA] at h
              split at h
              · rename_i hbb; rw [ih _ _ h]; simp; omega
              · cases h
          rw [this _ _ _ hf, hmade.1.1, Array.length_toList, size_madeCells]
        have map_eq : (ps.map fun (p : Nat × Operand) => (p.1, ρ p.2)).toList = ps.toList.map fun (p : Nat × Operand) => (p.1, ρ p.2) := by simp
        refine ⟨_, .slice (some ⟨w.heap.size, 0, none⟩) len len, _, .inl ?_, .snoc _ _, hal, ?_⟩
        · have hle : ¬ (len * sz > 2 ^ 24) := by have := hb.2; omega
          have q1' : Instr.fill (fun i => some (i * sz, sz)) (madeCells zv.cells (len * sz)) (ps.toList.map fun (p : Nat × Operand) => (p.1, ρ p.2)) = some ccs := q1
          by_cases h0 : len * sz = 0
          · have hm : ∀ f : Nat → Value, (Array.range (len * sz)).map f = #[] := fun f => by simp [h0]
            rw [show madeCells zv.cells (len * sz) = #[] from hm _] at q1'
            simp only [execOp, ho, Instr.buildSlice, Sem.run_bind, run_underlying hu, hsr, Result.andThen_ok, if_neg hle, if_pos h0, hm, map_eq, pure_bind, q1']
            simp [newRow]
          · have hm : (Array.range (len * sz)).map (fun i => zv.cells[i % zv.cells.size]!) = madeCells zv.cells (len * sz) := rfl
            simp only [execOp, ho, Instr.buildSlice, Sem.run_bind, run_underlying hu, hsr, Result.andThen_ok, if_neg hle, if_neg h0, hzr, map_eq, bind_assoc, pure_bind, hm, q1']
            simp [newRow]
        · refine V.sl (p := ⟨w.heap.size, 0, ccs.size, cs.length⟩) (by have := last_place hr (⟨w.heap.size, 0, ccs.size, cs.length⟩ : Pl); simpa using this) (fun _ => rfl) ?_ ?_ (Nat.le_refl _) hsp ?_
          · simp; omega
          · simp; omega
          · simp; omega
      · cases ha
    · cases hc
  · cases hc

theorem ok_litf {t : TypeId} {len : Nat} {ps : Array (Nat × Operand)} (ho : o.op = .buildSlice t len ps) {ao : AOp} (hc : compOp P tr o.op = some ao) (ha : aop cf S ev (frz ao) = some (v, S')) : Gives w0 φ S' v ((execOp ρ o).run P w) := by
  rw [ho] at hc
  simp only [compOp] at hc
  split at hc
  · rename_i e hu
    simp only [Option.bind_eq_some_iff] at hc
    obtain ⟨z, hz, sz, hsz, hc⟩ := hc
    split at hc
    · rename_i hb
      obtain ⟨aps, hps, rfl⟩ := Option.map_eq_some_iff.1 hc
      simp only [frz, aop] at ha
      split at ha
      · obtain ⟨cs, hf, hh⟩ := Option.map_eq_some_iff.1 ha; cases hh
        obtain ⟨zv, hzr, hzc⟩ := run_zero (w := w) hz
        have hzV := constSs_V (w0 := w0) (φ := φ) hzc
        have hzl : zv.cells.size = sz := by have := hzV.1.1; simp at this; omega
        obtain ⟨hsr, hsp⟩ := run_size (P := P) (w := w) hsz
        have hmade : Vc w0 φ (repCells z len) (madeCells zv.cells (len * sz)).toList := by
          rw [repCells_eq, ← hzl, made_flat _ (by omega)]; exact rep_V hzV len
        obtain ⟨ccs, q1, q2⟩ := fill_rel hρ (place := fun i => some (i * sz, sz)) (pl := fun i => some (i * sz, sz)) (fun i q h => h) _ _ _ _ _ hps hf hmade
        have hcl : ccs.size = cs.length := by have := q2.1.1; simp at this; omega
        have hcs : cs.length = len * sz := by
          have : ∀ (aps : List (Nat × Nat × AX)) (a b : List AV), fillA ev a aps = some b → b.length = a.length := by
            intro aps
            induction aps with
            | nil => intro a b h; cases h; rfl
            | cons p aps ih =>
              intro a b h
              obtain ⟨off, n, x⟩ := p
              simp only [fillA] at h
              split at h
              · rename_i hbb; rw [ih _ _ h]; simp; omega
              · cases h
          rw [this _ _ _ hf, hmade.1.1, Array.length_toList, size_madeCells]
        have map_eq : (ps.map fun (p : Nat × Operand) => (p.1, ρ p.2)).toList = ps.toList.map fun (p : Nat × Operand) => (p.1, ρ p.2) := by simp
        obtain ⟨φ', f1, f2, f3⟩ := hr.newF (w' := w.alloc (.cells ccs e)) (World.grownBy_alloc w _ _) q2 (fun j cv hj => by
          rw [World.cell?, heap_alloc_new]; simpa using hj)
        refine ⟨φ', .slice (some ⟨w.heap.size, 0, none⟩) len len, _, .inl ?_, f1, f2, (f3 _ _ (Nat.le_refl _)).1⟩
        · have hle : ¬ (len * sz > 2 ^ 24) := by have := hb.2; omega
          have q1' : Instr.fill (fun i => some (i * sz, sz)) (madeCells zv.cells (len * sz)) (ps.toList.map fun (p : Nat × Operand) => (p.1, ρ p.2)) = some ccs := q1
          by_cases h0 : len * sz = 0
          · have hm : ∀ f : Nat → Value, (Array.range (len * sz)).map f = #[] := fun f => by simp [h0]
            rw [show madeCells zv.cells (len * sz) = #[] from hm _] at q1'
            simp only [execOp, ho, Instr.buildSlice, Sem.run_bind, run_underlying hu, hsr, Result.andThen_ok, if_neg hle, if_pos h0, hm, map_eq, pure_bind, q1']
            simp [newRow]
          · have hm : (Array.range (len * sz)).map (fun i => zv.cells[i % zv.cells.size]!) = madeCells zv.cells (len * sz) := rfl
            simp only [execOp, ho, Instr.buildSlice, Sem.run_bind, run_underlying hu, hsr, Result.andThen_ok, if_neg hle, if_neg h0, hzr, map_eq, bind_assoc, pure_bind, hm, q1']
            simp [newRow]
      · cases ha
    · cases hc
  · cases hc

theorem ok_litn {t : TypeId} {len : Nat} {ps : Array (Nat × Operand)} (ho : o.op = .buildSlice t len ps) {ao : AOp} (hc : compOp P tr o.op = some ao) (ha : aop cf S ev (frzN ao) = some (v, S')) : Gives w0 φ S' v ((execOp ρ o).run P w) := by
  rw [ho] at hc
  simp only [compOp] at hc
  split at hc
  · rename_i e hu
    simp only [Option.bind_eq_some_iff] at hc
    obtain ⟨z, hz, sz, hsz, hc⟩ := hc
    split at hc
    · rename_i hb
      obtain ⟨aps, hps, rfl⟩ := Option.map_eq_some_iff.1 hc
      simp only [frzN, aop] at ha
      split at ha
      · obtain ⟨cs, hf, hh⟩ := Option.map_eq_some_iff.1 ha; cases hh
        obtain ⟨zv, hzr, hzc⟩ := run_zero (w := w) hz
        have hzV := constSs_V (w0 := w0) (φ := φ) hzc
        have hzl : zv.cells.size = sz := by have := hzV.1.1; simp at this; omega
        obtain ⟨hsr, hsp⟩ := run_size (P := P) (w := w) hsz
        have hmade : Vc w0 φ (repCells z len) (madeCells zv.cells (len * sz)).toList := by
          rw [repCells_eq, ← hzl, made_flat _ (by omega)]; exact rep_V hzV len
        obtain ⟨ccs, q1, q2⟩ := fill_rel hρ (place := fun i => some (i * sz, sz)) (pl := fun i => some (i * sz, sz)) (fun i q h => h) _ _ _ _ _ hps hf hmade
        have hcl : ccs.size = cs.length := by have := q2.1.1; simp at this; omega
        have hcs : cs.length = len * sz := by
          have : ∀ (aps : List (Nat × Nat × AX)) (a b : List AV), fillA ev a aps = some b → b.length = a.length := by
            intro aps
            induction aps with
            | nil => intro a b h; cases h; rfl
            | cons p aps ih =>
              intro a b h
              obtain ⟨off, n, x⟩ := p
              simp only [fillA] at h
              split at h
              · rename_i hbb; rw [ih _ _ h]; simp; omega
              · cases h
          rw [this _ _ _ hf, hmade.1.1, Array.length_toList, size_madeCells]
        have map_eq : (ps.map fun (p : Nat × Operand) => (p.1, ρ p.2)).toList = ps.toList.map fun (p : Nat × Operand) => (p.1, ρ p.2) := by simp
        obtain ⟨φ', f1, f2, f3⟩ := hr.newF (w' := w.alloc (.cells ccs e)) (World.grownBy_alloc w _ _) q2 (fun j cv hj => by
          rw [World.cell?, heap_alloc_new]; simpa using hj)
        refine ⟨φ', .slice (some ⟨w.heap.size, 0, none⟩) len len, _, .inl ?_, f1, f2, (f3 _ _ (Nat.le_refl _)).2⟩
        · have hle : ¬ (len * sz > 2 ^ 24) := by have := hb.2; omega
          have q1' : Instr.fill (fun i => some (i * sz, sz)) (madeCells zv.cells (len * sz)) (ps.toList.map fun (p : Nat × Operand) => (p.1, ρ p.2)) = some ccs := q1
          by_cases h0 : len * sz = 0
          · have hm : ∀ f : Nat → Value, (Array.range (len * sz)).map f = #[] := fun f => by simp [h0]
            rw [show madeCells zv.cells (len * sz) = #[] from hm _] at q1'
            simp only [execOp, ho, Instr.buildSlice, Sem.run_bind, run_underlying hu, hsr, Result.andThen_ok, if_neg hle, if_pos h0, hm, map_eq, pure_bind, q1']
            simp [newRow]
          · have hm : (Array.range (len * sz)).map (fun i => zv.cells[i % zv.cells.size]!) = madeCells zv.cells (len * sz) := rfl
            simp only [execOp, ho, Instr.buildSlice, Sem.run_bind, run_underlying hu, hsr, Result.andThen_ok, if_neg hle, if_neg h0, hzr, map_eq, bind_assoc, pure_bind, hm, q1']
            simp [newRow]
      · cases ha
    · cases hc
  · cases hc

theorem ok_mark {s d e e' : TypeId} {x : Operand} (ho : o.op = .convert s d x) {ax : AX} (hs : P.underlying s = some (.slice e')) (hd : P.underlying d = some (.slice e)) (he : P.underlying e = some (.int .u8)) (hsd : s = d) (hx : tr x = some ax)
    (ha : aop cf S ev (.mark ax) = some (v, S')) : Gives w0 φ S' v ((execOp ρ o).run P w) := by
  have kx := hρ _ _ hx
  simp only [aop] at ha
  split at ha
  · rename_i cs n hh
    rw [hh] at kx
    split at ha
    · cases ha
    · rename_i hcs
      cases ha
      generalize hrx : ρ x = rx at kx
      cases kx with
      | @csln _ cvs a n c hl hc h1 hO hn hb hsp =>
        have hz := hc 0 (cvs[0]'(by omega)) (List.getElem?_eq_getElem (by omega))
        have hab : (a.add 0).block = a.block := by simp [Addr.add]
        have hrun : (execOp ρ o).run P w = .ok (.value (.slice (some a) n c)) (match w.shape? a.block with | some (_, k) => w.freeze ⟨a.block, k, none⟩ 1 | none => w) := by
          subst hsd
          have hee : e' = e := by rw [hs] at hd; cases hd; rfl
          subst hee
          simp only [execOp, ho, convert, hrx, run_underlying hs, run_underlying he, Sem.run_bind, Result.andThen_ok, beq_self_eq_true, markStringish, run_shape]
          cases w.shape? a.block with
          | none => simp
          | some p => simp
        refine ⟨φ, _, _, .inl hrun, .refl _, ?_, .csl hl hc h1 hO hn⟩
        split
        · exact hr.mark hz (by rw [hab]; exact hb) _ (by rw [hab]) 1
        · exact hr
  · cases ha

theorem ok_store {t : TypeId} {x y : Operand} (ho : o.op = .store t x y) {ao : AOp} (hc : compOp P tr o.op = some ao) (ha : aop cf S ev ao = some (v, S')) : Gives w0 φ S' v ((execOp ρ o).run P w) := by
  rw [ho] at hc
  simp only [compOp, Option.bind_eq_some_iff, Option.map_eq_some_iff] at hc
  obtain ⟨n, hn, ax, hx, ay, hy, rfl⟩ := hc
  have kx := hρ _ _ hx
  have ky := hρ _ _ hy
  obtain ⟨hsr, hpos⟩ := run_size (P := P) (w := w) hn
  simp only [aop] at ha
  split at ha
  · rename_i id off he
    rw [he] at kx
    obtain ⟨p, hp, e'⟩ := kx.ptr_inv
    split at ha
    · rename_i cs hS
      split at ha
      · rename_i hb
        cases ha
        have hV := ky.cells (fun q => by rw [q] at hb; simp at hb; omega)
        have hlen : (ρ y).cells.size = n := by have := hV.1.1; simp at this; omega
        obtain ⟨h1, h2, h3⟩ := hr.write hp hS off hV (by omega)
        have hst := run_storeCells_cells (P := P) p.b (p.o + off) (ρ y).cells.toList 0 w h2 h3 hV.2
        rw [hb.1] at h1
        refine ⟨φ, undef, _, .inr ⟨?_, rfl⟩, .refl _, h1, .undef⟩
        simp only [Nat.add_zero] at hst
        simp only [execOp, ho, Instr.storeAt, e', Instr.sureAddr, storeVar, Sem.run_bind, Sem.run_pure, hsr, Result.andThen_ok, hlen, ne_eq, not_true_eq_false, if_false, hst, pure_bind]
      · cases ha
    · cases ha
  · cases ha

theorem ok_s2b {s d e : TypeId} {x : Operand} (ho : o.op = .convert s d x) {ax : AX} (hs : P.underlying s = some .string) (hd : P.underlying d = some (.slice e)) (he : P.underlying e = some (.int .u8)) (hx : tr x = some ax)
    (ha : aop cf S ev (.s2b ax) = some (v, S')) : Gives w0 φ S' v ((execOp ρ o).run P w) := by
  have kx := hρ _ _ hx
  simp only [aop] at ha
  split at ha
  · rename_i s' hh
    rw [hh] at kx; have e' := kx.str_inv
    split at ha
    · cases ha
      have hge := grownCap_ge w (ByteArray.size ⟨s'.toArray⟩) 0 e
      have hrun := run_bytes_of_string (P := P) w s d e ⟨s'.toArray⟩ hs hd he
      generalize grownCap w (ByteArray.size ⟨s'.toArray⟩) 0 e = c at hge hrun
      have hsz : ByteArray.size ⟨s'.toArray⟩ = s'.length := rfl
      rw [hsz] at hge hrun
      have hrow : bytesRow ⟨s'.toArray⟩ c = ((s'.map fun (c : UInt8) => Value.int .u8 c.toNat) ++ List.replicate (c - s'.length) (Value.int .u8 0)).toArray := by
        simp [bytesRow, hsz]
      have hsize : (bytesRow ⟨s'.toArray⟩ c).size = c := by rw [hrow]; simp; omega
      refine ⟨φ.snoc ⟨w.heap.size, 0, c, s'.length⟩, .slice (some ⟨w.heap.size, 0, none⟩) s'.length c, _, .inl (by simp only [execOp, ho, e', Sem.run_bind, hrun, Result.andThen_ok, Sem.run_pure]; rfl), .snoc _ _, ?_, ?_⟩
      · have hg : w.grownBy (w.drew.alloc (.cells (bytesRow ⟨s'.toArray⟩ c) e ((bytesRow ⟨s'.toArray⟩ c).size, (bytesRow ⟨s'.toArray⟩ c).size + 1))) none := by
          have := World.grownBy_alloc w.drew (.cells (bytesRow ⟨s'.toArray⟩ c) e ((bytesRow ⟨s'.toArray⟩ c).size, (bytesRow ⟨s'.toArray⟩ c).size + 1)) none
          exact ⟨this.os, this.tape, this.output, this.size, this.block⟩
        refine (hr.grown hg).push (fun i q y hq hy ly => ?_) (hr.freshZ (Nat.le_refl _)) ⟨by simp, hr.below.size, _, _, _, heap_alloc_new w.drew _, hsize, .inr (Nat.le_refl _), by rw [hsize]; simp; omega, fun j u hj => ?_⟩
        · have := ((hr.obj i q y hq hy).lt ly).2; simp; omega
        · have hV := (bytes_V (w0 := w0) (φ := φ) s')
          obtain ⟨cv, c1, c2⟩ := hV.1.get hj
          refine ⟨cv, ?_, c2, hV.2 cv (List.mem_of_getElem? c1)⟩
          rw [hrow, Nat.zero_add, List.getElem?_toArray, List.getElem?_append_left (List.getElem?_eq_some_iff.1 c1).1]; exact c1
      · exact V.sl (p := ⟨w.heap.size, 0, c, s'.length⟩) (last_place hr _) (fun _ => rfl) (by simp; omega) (by simp) hge (by omega) (by simp)
    · cases ha
  · cases ha

theorem ok_s2bf {s d e : TypeId} {x : Operand} (ho : o.op = .convert s d x) {ax : AX} (hs : P.underlying s = some .string) (hd : P.underlying d = some (.slice e)) (he : P.underlying e = some (.int .u8)) (hx : tr x = some ax)
    (ha : aop cf S ev (.s2bf ax) = some (v, S')) : Gives w0 φ S' v ((execOp ρ o).run P w) := by
  have kx := hρ _ _ hx
  simp only [aop] at ha
  split at ha
  · rename_i s' hh
    rw [hh] at kx; have e' := kx.str_inv
    split at ha
    · cases ha
      have hge := grownCap_ge w (ByteArray.size ⟨s'.toArray⟩) 0 e
      have hrun := run_bytes_of_string (P := P) w s d e ⟨s'.toArray⟩ hs hd he
      generalize grownCap w (ByteArray.size ⟨s'.toArray⟩) 0 e = c at hge hrun
      have hsz : ByteArray.size ⟨s'.toArray⟩ = s'.length := rfl
      rw [hsz] at hge hrun
      have hrow : bytesRow ⟨s'.toArray⟩ c = ((s'.map fun (c : UInt8) => Value.int .u8 c.toNat) ++ List.replicate (c - s'.length) (Value.int .u8 0)).toArray := by
        simp [bytesRow, hsz]
      have hsize : (bytesRow ⟨s'.toArray⟩ c).size = c := by rw [hrow]; simp; omega
      have hg : w.grownBy (w.drew.alloc (.cells (bytesRow ⟨s'.toArray⟩ c) e ((bytesRow ⟨s'.toArray⟩ c).size, (bytesRow ⟨s'.toArray⟩ c).size + 1))) none := by
        have := World.grownBy_alloc w.drew (.cells (bytesRow ⟨s'.toArray⟩ c) e ((bytesRow ⟨s'.toArray⟩ c).size, (bytesRow ⟨s'.toArray⟩ c).size + 1)) none
        exact ⟨this.os, this.tape, this.output, this.size, this.block⟩
      obtain ⟨φ', f1, f2, f3⟩ := hr.newF hg (bytes_V (w0 := w0) (φ := φ) s') (fun j cv hj => by
        have hj' := (List.getElem?_eq_some_iff.1 hj).1
        have hh := heap_alloc_new w.drew (.cells (bytesRow ⟨s'.toArray⟩ c) e ((bytesRow ⟨s'.toArray⟩ c).size, (bytesRow ⟨s'.toArray⟩ c).size + 1))
        have hh : (w.drew.alloc (.cells (bytesRow ⟨s'.toArray⟩ c) e ((bytesRow ⟨s'.toArray⟩ c).size, (bytesRow ⟨s'.toArray⟩ c).size + 1))).heap[w.heap.size]? = _ := hh
        rw [World.cell?, hh]
        simp only [Option.isSome_none, Bool.false_eq_true, if_false]
        rw [hrow, List.getElem?_toArray, List.getElem?_append_left hj']; exact hj)
      exact ⟨φ', .slice (some ⟨w.heap.size, 0, none⟩) s'.length c, _, .inl (by simp only [execOp, ho, e', Sem.run_bind, hrun, Result.andThen_ok, Sem.run_pure]), f1, f2, (f3 _ _ hge).1⟩
    · cases ha
  · cases ha

theorem ok_mksl {t : TypeId} {l c : Operand} (ho : o.op = .makeSlice t l c) {ao : AOp} (hc : compOp P tr o.op = some ao) (ha : aop cf S ev ao = some (v, S')) : Gives w0 φ S' v ((execOp ρ o).run P w) := by
  rw [ho] at hc
  simp only [compOp] at hc
  split at hc
  · rename_i e hu
    simp only [Option.bind_eq_some_iff] at hc
    obtain ⟨i, hi, z, hz, hc⟩ := hc
    split at hc
    · rename_i hpos
      simp only [Option.bind_eq_some_iff, Option.map_eq_some_iff] at hc
      obtain ⟨al, hl, ac, hcc, rfl⟩ := hc
      have kl := hρ _ _ hl
      have kc := hρ _ _ hcc
      simp only [aop] at ha
      split at ha
      · rename_i n m he1 he2
        split at ha
        · rename_i hb; cases ha
          obtain ⟨rfl, h0, hbd, hzl⟩ := hb
          rw [he1] at kl; rw [he2] at kc
          have e1 := kl.int_inv; have e2 := kc.int_inv
          obtain ⟨i', zv, hi', hzv, hzV⟩ := zero_info (w0 := w0) (φ := φ) hz
          rw [hi] at hi'; cases hi'
          have hzs : zv.cells.size = i.size := by have := hzV.1.1; simp at this; omega
          obtain ⟨k, rfl⟩ : ∃ k : Nat, n = k := ⟨n.toNat, by omega⟩
          have hk : k ≤ 140737488355328 := by
            have : (k : Int) * 1 ≤ (k : Int) * i.bytes := Int.mul_le_mul_of_nonneg_left (by omega) (by omega)
            omega
          have hrun := run_make (P := P) w t e i zv hu hi hzv .i64 .i64 k k (by omega) (by omega) (by rw [Int.mul_comm]; omega) (by omega)
          have hmade : Vc w0 φ (List.replicate k z).flatten (madeCells zv.cells (k * i.size)).toList := by
            rw [← hzs, made_flat _ (by omega)]; exact rep_V hzV k
          have hal := hr.alloc hmade e 0 []
          simp only [List.append_nil, List.length_nil, Nat.add_zero, Array.toArray_toList] at hal
          have hml : (madeCells zv.cells (k * i.size)).toList.length = k * i.size := by rw [Array.length_toList, size_madeCells]
          have hfl : (List.replicate k z).flatten.length = k * i.size := by rw [hmade.1.1, hml]
          rw [hml, hfl] at hal
          refine ⟨_, .slice (some ⟨w.heap.size, 0, none⟩) k k, _, .inl ?_, .snoc _ _, hal, ?_⟩
          · simp only [execOp, ho, e1, e2, Sem.run_bind, hrun, Result.andThen_ok, Sem.run_pure, Int.toNat_natCast]
          · simp only [Int.toNat_natCast]
            exact V.sl (p := ⟨w.heap.size, 0, k * i.size, k * i.size⟩) (last_place hr _) (fun _ => rfl) (by simp) (by simp) (Nat.le_refl _) hpos.1 (by simp)
        · cases ha
      · cases ha
    · cases hc
  · cases hc

end
end Go.Proofs.Ytmijfhepagobdaa.Avm
