/- Rows that grow, rows wiped. Any operation: the machine does what the abstract machine does; calls. Runs of a region, instruction by instruction; which store an instruction may meet. One operation of a region, wherever it comes up. A region, in the text's order or in any order. -/
import Derived.Test.YtaajlbbooneiiaaDoorZ4
import Derived.Room.Entries
import Derived.Conc.MuLone
set_option linter.unusedVariables false
set_option linter.unusedSimpArgs false
set_option linter.unusedSectionVars false
namespace Go.Proofs.YtaajlbbooneiiaaDoor.Avm
open Go.RowKit

section
variable {P : Program} {w0 w : World} {φ : Pc} {S S' : Store} {ev : AX → AV} {ρ : Operand → Value} {tr : Operand → Option AX} {cf : CallF} {o : Oper} {v : AV}

/-- what is appended -/
theorem first_cells (hr : Rel w0 φ S w) {sz : Nat} (hs : 0 < sz) {y : AV} {cy : Value} {ys : List AV} {m : Nat} (hy : V w0 φ y cy) (h : elems S sz y = some (ys, m)) :
    ∃ cvs : List Value, Vc w0 φ ys cvs ∧ cvs.length = m * sz ∧ (Builtin.lenOf cy).run P w = .ok m w ∧ ∀ w' : World, w'.heap = w.heap → (Builtin.firstCells sz m cy).run P w' = .ok cvs.toArray w' := by
  by_cases hstr : ∃ s, y = .str s
  · obtain ⟨s, rfl⟩ := hstr
    have := hy.str_inv; subst this
    simp only [elems] at h
    split at h
    · rename_i h1; cases h; subst h1
      refine ⟨_, bytes_V s, by simp, by simp [Builtin.lenOf]; rfl, fun w' _ => ?_⟩
      simp only [Builtin.firstCells, Sem.run_pure]
      congr 1
      have : ((⟨s.toArray⟩ : ByteArray).extract 0 s.length).data = s.toArray := by
        rw [ByteArray.data_extract]; simp [List.extract_eq_drop_take']
      rw [this]; simp
    · cases h
  · rcases elems_slice hr hy (fun s e => hstr ⟨s, e⟩) h with ⟨rfl, rfl, e⟩ | ⟨a, c, cvs, e, hl, hv, hn, hc⟩
    · exact ⟨[], .nil, by simp, by simp [Builtin.lenOf, e], fun w' _ => by simp [Builtin.firstCells, e]⟩
    · refine ⟨cvs, hv, hl, by simp [Builtin.lenOf, e], fun w' hw => ?_⟩
      have := run_loadCells_list (P := P) w' a cvs (fun j u hu => by
        have := hc j u hu
        simpa [World.cell?, hw] using this)
      rw [hl] at this
      simp only [Builtin.firstCells, e, this]

/-- append, with room -/
theorem append_room {t ty e : TypeId} {i : TypeInfo} {u : TypeId} {d : TypeDesc} (ht : P.underlying t = some (.slice e)) (hd : P.underlying u = some d) (hz : ∀ k, d ≠ .int k) (hi : P.info? e = some i)
    {base : Option Addr} {n c m : Nat} {y : Value} {cvs : List Value} (hlen : (Builtin.lenOf y).run P w = .ok m w) (hf : (Builtin.firstCells i.size m y).run P w = .ok cvs.toArray w) (hroom : n + m ≤ c)
    {w' : World} (hst : ∀ a, base = some a → (storeCells (a.add (n * i.size)) cvs).run P w = .ok () w') (hn : base = none → w' = w) :
    (Builtin.append_ #[t, u] ty #[.slice base n c, y]).run P w = .ok (.slice base (n + m) c) w' := by
  have hno : (match d with | .int _ => true | _ => false : Bool) = false := by cases d <;> first | rfl | exact absurd rfl (hz _)
  cases base with
  | none => rw [hn rfl]; simp [Builtin.append_, run_underlying ht, run_underlying hd, sizeOf, typeInfo, hi, hlen, hroom, hf, hno]
  | some a => simp [Builtin.append_, run_underlying ht, run_underlying hd, sizeOf, typeInfo, hi, hlen, hroom, hf, hno, hst a rfl]

/-- append, without -/
theorem append_grow {t ty e : TypeId} {i : TypeInfo} {z : Value} {u : TypeId} {d : TypeDesc} (ht : P.underlying t = some (.slice e)) (hd : P.underlying u = some d) (hz : ∀ k, d ≠ .int k) (hi : P.info? e = some i) (hzv : i.zero = some z)
    {base : Option Addr} {n c m : Nat} {y : Value} {olds cvs : List Value} (hlen : (Builtin.lenOf y).run P w = .ok m w) (hf : (Builtin.firstCells i.size m y).run P w.drew = .ok cvs.toArray w.drew)
    (ho : (Builtin.firstCells i.size n (.slice base n c)).run P w.drew = .ok olds.toArray w.drew) (hroom : c < n + m) (hb : (n + m) * i.bytes ≤ 140737488355328) (hpos : 0 < i.bytes) :
    (Builtin.append_ #[t, u] ty #[.slice base n c, y]).run P w = .ok (.slice (some ⟨w.heap.size, 0, none⟩) (n + m) (grownCap w (n + m) c e))
      (w.drew.alloc (.cells (olds ++ cvs ++ (Builtin.zeroCells z.cells (grownCap w (n + m) c e - (n + m))).toList).toArray e)) := by
  have hno : (match d with | .int _ => true | _ => false : Bool) = false := by cases d <;> first | rfl | exact absurd rfl (hz _)
  have h1 : ¬ (n + m ≤ c) := by omega
  have h2 : ¬ (281474976710656 < Builtin.nextslicecap (n + m) c * i.bytes) := by have := growslice_fits hroom hb; omega
  have h3 : ¬ (i.bytes = 0) := by omega
  simp [Builtin.append_, run_underlying ht, run_underlying hd, sizeOf, typeInfo, zeroValue, hi, hzv, hlen, h1, hno, h2, h3, Question.forced, run_askRoom, ho, hf, newRow, grownCap]
  congr 2
  apply Array.ext'
  simp

/-- cells written past what is known: the row goes on under another name -/
theorem Rel.moved (h : Rel w0 φ S w) {id : Nat} {p : Pl} (hp : φ.pl[id]? = some p) {cs : List AV} (hS : S[id]? = some (.cells cs)) {off : Nat} {k : Nat} {ys : List AV} {cvs : List Value} (hv : Vc w0 φ ys cvs) (hk : off + k = cs.length)
    (hcap : p.o + off + k + ys.length ≤ p.cap) :
    Rel w0 (φ.snoc ⟨p.b, p.o + off, p.cap, (cs.drop off ++ ys).length⟩) (S.set id .dead ++ [.cells (cs.drop off ++ ys)]) (w.setCells p.b (p.o + off + k) cvs) ∧
    (∀ j, j < cvs.length → (w.cell? ⟨p.b, p.o + off + k + j, none⟩).isSome = true) ∧ (∀ j, j < cvs.length → w.frozen? ⟨p.b, p.o + off + k + j, none⟩ = false) := by
  obtain ⟨h1, h2, ccs, e, fr, h3, h4, h5, h6, h7⟩ := h.obj _ _ _ hp hS
  have hl := hv.1.1
  have hheap := setCells_heap p.b cvs (p.o + off + k) w ccs e fr h3 (by omega)
  refine ⟨(h.set hp hS trivial (setCells_grown _ _ _ _) (x' := .dead) trivial).push (fun i q y hq hy ly => ?_) (fun a cv ha => h.fzb a cv id p _ ha hp hS trivial) ?_, fun j hj => ?_, fun j hj => ?_⟩
  · intro hb
    by_cases hi : id = i
    · subst hi
      rw [List.getElem?_set] at hy; simp at hy; obtain ⟨_, rfl⟩ := hy; exact ly
    · rw [List.getElem?_set_ne hi] at hy
      exact hi (h.inj i id q p y _ hq hp hy hS ly trivial hb).symm
  · refine ⟨rfl, h2, _, e, fr, hheap, ?_, ?_, ?_, fun j v hj => ?_⟩
    · simp only [List.size_toArray, List.length_append, List.length_take, List.length_drop, Array.length_toList]; omega
    · refine h5.imp (fun x => x) fun h5 => ?_
      simp only [List.size_toArray, List.length_append, List.length_take, List.length_drop, Array.length_toList]; omega
    · simp only [List.size_toArray, List.length_append, List.length_take, List.length_drop, Array.length_toList]; omega
    · simp only [List.getElem?_toArray, List.append_assoc]
      by_cases a : j < k
      · rw [List.getElem?_append_left (by simp; omega), List.getElem?_drop] at hj
        obtain ⟨cv, c1, c2, c3⟩ := h7 _ v hj
        refine ⟨cv, ?_, c2, c3⟩
        rw [List.getElem?_append_left (by simp; omega), List.getElem?_take, if_pos (by omega)]
        rw [Array.getElem?_toList, ← c1, Nat.add_assoc]
      · rw [List.getElem?_append_right (by simp; omega)] at hj
        obtain ⟨cv, c1, c2⟩ := hv.1.get hj
        refine ⟨cv, ?_, c2, hv.2 cv (List.mem_of_getElem? c1)⟩
        have := (List.getElem?_eq_some_iff.1 c1).1
        rw [List.getElem?_append_right (by simp; omega), List.getElem?_append_left (by simp at this ⊢; omega)]
        rw [← c1]; congr 1; simp; omega
  · simp only [World.cell?, h3]; simp; omega
  · simp only [World.frozen?, h3]
    rcases h5 with h5 | h5
    · subst h5; simp
    · simp; omega

variable (hr : Rel w0 φ S w) (hρ : ∀ x ax, tr x = some ax → V w0 φ (ev ax) (ρ x))
include hr hρ

theorem ok_app {c : Call} {x y : Operand} {t u e : TypeId} {i : TypeInfo} {ax : AX} {ys : List AV} {m : Nat} {cvs : List Value} (ho : o.op = .call c) (hcl : c.callee = .builtin .append) (hcx : c.args.toList = [x, y]) (ht : c.argTypes.toList = [t, u])
    (hpos : 0 < i.size ∧ 0 < i.bytes) {zv : Value} (hzs : zv.cells.size = i.size) (hx : tr x = some ax) (hv : Vc w0 φ ys cvs) (hl : cvs.length = m * i.size)
    (hrm : ∀ (base : Option Addr) (n c : Nat) (w' : World), n + m ≤ c → (∀ a, base = some a → (storeCells (a.add (n * i.size)) cvs).run P w = .ok () w') → (base = none → w' = w) →
      (Builtin.append_ #[t, u] o.type #[.slice base n c, ρ y]).run P w = .ok (.slice base (n + m) c) w')
    (hgr : ∀ (base : Option Addr) (n c : Nat) (olds : List Value), (Builtin.firstCells i.size n (.slice base n c)).run P w.drew = .ok olds.toArray w.drew → c < n + m → (n + m) * i.bytes ≤ 140737488355328 →
      (Builtin.append_ #[t, u] o.type #[.slice base n c, ρ y]).run P w = .ok (.slice (some ⟨w.heap.size, 0, none⟩) (n + m) (grownCap w (n + m) c e))
        (w.drew.alloc (.cells (olds ++ cvs ++ (Builtin.zeroCells zv.cells (grownCap w (n + m) c e - (n + m))).toList).toArray e)))
    (ha : appTo S i.size i.bytes ys m (ev ax) = some (v, S')) : Gives w0 φ S' v ((execOp ρ o).run P w) := by
  have kx := hρ _ _ hx
  have hat : c.argTypes = #[t, u] := by have := congrArg List.toArray ht; simpa using this
  obtain ⟨cs0, hcs⟩ := call_builtin (P := P) hr hρ ho hcl (vs := [ρ x, ρ y]) (by rw [hcx]; rfl)
  have run : ∀ r w', (Builtin.append_ #[t, u] o.type #[ρ x, ρ y]).run P w = .ok r w' → (execOp ρ o).run P w = .ok (.value r) w' := fun r w' hr' => by
    rw [hcs, hat]; simp [builtin, hr']
  have hyl := hv.1.1
  unfold appTo at ha
  -- a new row
  have fresh : ∀ {S1 : Store} (base : Option Addr) (n cc : Nat) (os : List AV) (olds : List Value), Rel w0 φ S1 w → Vc w0 φ os olds → ρ x = .slice base n cc → olds.length = n * i.size → (Builtin.firstCells i.size n (.slice base n cc)).run P w.drew = .ok olds.toArray w.drew → cc < n + m → (n + m) * i.bytes ≤ 140737488355328 →
      Gives w0 φ (S1 ++ [.cells (os ++ ys)]) (.sl S1.length 0 (n + m) i.size) ((execOp ρ o).run P w) := fun {S1} base n cc os olds hr1 hov e' hol hfo hroom hb => by
    have hrun := hgr base n cc olds hfo hroom hb
    have hge := grownCap_ge w (n + m) cc e
    generalize grownCap w (n + m) cc e = g at hrun hge
    have hal := (hr1.grown (drew_grown w)).alloc (hov.append hv) e 0 (Builtin.zeroCells zv.cells (g - (n + m))).toList
    refine ⟨_, _, _, .inl (run _ _ (by rw [e']; exact hrun)), .snoc _ _, hal, ?_⟩
    have e1 : (n + m) * i.size = n * i.size + m * i.size := Nat.add_mul ..
    have e2 : (olds ++ cvs).length = (n + m) * i.size := by rw [List.length_append, hol, hl, e1]
    have e3 : (os ++ ys).length = (n + m) * i.size := by rw [← e2]; exact (hov.append hv).1.1
    have e4 : (n + m) * i.size ≤ g * i.size := Nat.mul_le_mul_right _ hge
    refine V.sl (last_place hr1 _) (fun _ => rfl) ?_ ?_ hge hpos.1 (by simp only [e3]; omega)
    · simp only [e3]; omega
    · simp only [e2]
      have : (Builtin.zeroCells zv.cells (g - (n + m))).toList.length = (g - (n + m)) * zv.cells.size := by rw [Array.length_toList, size_zeroCells]
      rw [this]
      rw [hzs, ← Nat.add_mul]
      have : n + m + (g - (n + m)) = g := by omega
      rw [this]; omega
  split at ha
  · rename_i he
    rw [he] at kx; have e' := kx.nilS_inv
    split at ha
    · rename_i hm; cases ha
      have := hrm (none) 0 0 (w) (by omega) (by simp) (fun _ => rfl)
      exact gives_value hr (run _ _ (by rw [e']; exact this)) (by have hm : m = 0 := hm; subst hm; exact .nilS)
    · rename_i hm
      split at ha
      · rename_i hb; cases ha
        have := fresh none 0 0 [] [] hr .nil e' (by simp) (by simp [Builtin.firstCells]) (by omega) (by simpa using hb)
        simpa using this
      · cases ha
  · rename_i he
    rw [he] at kx; obtain ⟨b', e'⟩ := kx.emp_inv
    split at ha
    · rename_i hm; cases ha
      have hm : m = 0 := hm
      subst hm
      have hcv : cvs = [] := List.eq_nil_of_length_eq_zero (by rw [hl, Nat.zero_mul])
      have := hrm (b') 0 0 (w) (by omega) (fun a _ => by subst hcv; rfl) (fun _ => rfl)
      exact gives_value hr (run _ _ (by rw [e']; exact this)) .emp
    · rename_i hm
      split at ha
      · rename_i hb; cases ha
        have := fresh b' 0 0 [] [] hr .nil e' (by simp) (by cases b' with | none => simp [Builtin.firstCells] | some a => simpa [Builtin.firstCells] using run_loadCells_list (P := P) w.drew a [] (by simp)) (by omega) (by simpa using hb)
        simpa using this
      · cases ha
  · rename_i cs n he
    split at ha
    · rename_i hm; cases ha
      have hm : m = 0 := hm
      subst hm
      have hcv : cvs = [] := List.eq_nil_of_length_eq_zero (by rw [hl, Nat.zero_mul])
      rw [he] at kx
      have kx' := kx
      obtain ⟨a, c', cvs', e', _, hn, _⟩ | ⟨rfl, rfl, e'⟩ := kx.csl_inv
      · have := hrm (some a) n c' (w) (by omega) (fun a _ => by subst hcv; rfl) (fun _ => rfl)
        rw [e'] at kx'
        exact gives_value hr (run _ _ (by rw [e']; exact this)) kx'
      · have := hrm (none) 0 0 (w) (by omega) (by simp) (fun _ => rfl)
        exact gives_value hr (run _ _ (by rw [e']; exact this)) .csl0
    · cases ha
  · rename_i he
    split at ha
    · rename_i hm; cases ha
      have hm : m = 0 := hm
      subst hm
      have hcv : cvs = [] := List.eq_nil_of_length_eq_zero (by rw [hl, Nat.zero_mul])
      rw [he] at kx
      obtain ⟨a, c', e'⟩ := kx.nsl_inv
      have := hrm (some a) 0 c' (w) (by omega) (fun a _ => by subst hcv; rfl) (fun _ => rfl)
      exact gives_value hr (run _ _ (by rw [e']; exact this)) .nsl
    · cases ha
  · rename_i id off n sz' he
    split at ha
    · rename_i cs hS
      split at ha
      · rename_i hsz; subst hsz
        rw [he] at kx
        obtain ⟨a, cc, p, e', hp, hA, htot, hcap, hn, _, hkn⟩ := kx.sl_inv
        obtain ⟨h1, h2, ccs, el, fr, h3, h4, h5, h6, h7⟩ := hr.obj _ _ _ hp hS
        have e1 : (n + m) * i.size = n * i.size + m * i.size := Nat.add_mul ..
        split at ha
        · rename_i hin; cases ha
          have hroom : n + m ≤ cc := by
            have : (n + m) * i.size ≤ cc * i.size := by omega
            exact Nat.le_of_mul_le_mul_right this hpos.1
          obtain ⟨w1, w2, w3⟩ := hr.write hp hS (off + n * i.size) hv (by omega)
          have hst := run_storeCells_cells (P := P) p.b (p.o + (off + n * i.size)) cvs 0 w w2 w3 hv.2
          rw [hyl, hl] at w1
          have hrun := hrm (some a) n cc (w.setCells p.b (p.o + (off + n * i.size)) cvs) hroom (fun a' ea => by
            cases ea
            by_cases hm : m = 0
            · have : cvs = [] := List.eq_nil_of_length_eq_zero (by rw [hl, hm, Nat.zero_mul])
              subst this; rfl
            · rw [hA (by omega), add_none, Nat.add_assoc]; simpa using hst) (by simp)
          refine ⟨φ, _, _, .inl (run _ _ (by rw [e']; exact hrun)), .refl _, ?_, ?_⟩
          · rw [show off + (n + m) * i.size = off + n * i.size + m * i.size by omega]; exact w1
          · exact V.sl hp hA htot hcap hroom hpos.1 (by omega)
        · split at ha
          · rename_i hfr; cases ha
            obtain ⟨hfr, hb⟩ := hfr
            by_cases hroom : n + m ≤ cc
            · have hle : (n + m) * i.size ≤ cc * i.size := Nat.mul_le_mul_right _ hroom
              obtain ⟨w1, w2, w3⟩ := hr.moved hp hS hv hfr (by omega)
              have hst := run_storeCells_cells (P := P) p.b (p.o + off + n * i.size) cvs 0 w w2 w3 hv.2
              have hm : 0 < m := by
                rcases Nat.eq_zero_or_pos m with h0 | h0
                · subst h0; simp at *; omega
                · exact h0
              have hrun := hrm (some a) n cc (w.setCells p.b (p.o + off + n * i.size) cvs) hroom (fun a' ea => by
                cases ea
                rw [hA (by omega), add_none]; simpa using hst) (by simp)
              refine ⟨_, _, _, .inl (run _ _ (by rw [e']; exact hrun)), .snoc _ _, w1, ?_⟩
              have hdl : (cs.drop off ++ ys).length = (n + m) * i.size := by simp only [List.length_append, List.length_drop]; omega
              refine V.sl (p := ⟨p.b, p.o + off, p.cap, (cs.drop off ++ ys).length⟩) (last_place hr _) (fun _ => by rw [hA (by omega)]; rfl) ?_ ?_ hroom hpos.1 (by simp only [hdl]; omega)
              · simp only [hdl]; omega
              · simp only; omega
            · have hkill := hr.kill id
              obtain ⟨olds, q1, q2, q3⟩ := hr.cells hp hS off (n * i.size) (by omega)
              have hdt : (cs.drop off).take (n * i.size) = cs.drop off := List.take_of_length_le (by simp; omega)
              rw [hdt] at q1
              have hfo : (Builtin.firstCells i.size n (.slice (some a) n cc)).run P w.drew = .ok olds.toArray w.drew := by
                have := run_loadCells_list (P := P) w.drew a olds (fun j u hu => by
                  have h0 : 0 < cc := by
                    rcases Nat.eq_zero_or_pos n with h0 | h0
                    · have h0' : olds = [] := List.eq_nil_of_length_eq_zero (by rw [q2, h0, Nat.zero_mul])
                      subst h0'; simp at hu
                    · omega
                  rw [hA h0, add_none]; exact q3 j u hu)
                rw [q2] at this
                simpa [Builtin.firstCells] using this
              have := fresh (some a) n cc _ olds hkill q1 e' q2 hfo (by omega) hb
              simpa using this
          · cases ha
      · cases ha
    · cases ha
  · rename_i id off n c sz' he
    split at ha
    · rename_i cs hS
      split at ha
      · rename_i hsz; obtain ⟨rfl, hcl2⟩ := hsz
        rw [he] at kx
        obtain ⟨a, p, e', hp, hA, hk, hn, _⟩ := kx.slc_inv
        obtain ⟨h1, h2, ccs, el, fr, h3, h4, h5, h6, h7⟩ := hr.obj _ _ _ hp hS
        have e1 : (n + m) * i.size = n * i.size + m * i.size := Nat.add_mul ..
        split at ha
        · rename_i hroom; cases ha
          have hle : (n + m) * i.size ≤ c * i.size := Nat.mul_le_mul_right _ hroom
          obtain ⟨w1, w2, w3⟩ := hr.write hp hS (off + n * i.size) hv (by omega)
          have hst := run_storeCells_cells (P := P) p.b (p.o + (off + n * i.size)) cvs 0 w w2 w3 hv.2
          rw [hyl, hl] at w1
          have hrun := hrm (some a) n c (w.setCells p.b (p.o + (off + n * i.size)) cvs) hroom (fun a' ea => by
            cases ea
            by_cases hm : m = 0
            · have : cvs = [] := List.eq_nil_of_length_eq_zero (by rw [hl, hm, Nat.zero_mul])
              subst this; rfl
            · rw [hA (by omega), add_none, Nat.add_assoc]; simpa using hst) (by simp)
          refine ⟨φ, _, _, .inl (run _ _ (by rw [e']; exact hrun)), .refl _, ?_, ?_⟩
          · rw [show off + (n + m) * i.size = off + n * i.size + m * i.size by omega]; exact w1
          · exact V.slc hp hA hk hroom hpos.1
        · rename_i hroom
          split at ha
          · rename_i hb; cases ha
            have hle : n * i.size ≤ c * i.size := Nat.mul_le_mul_right _ hn
            obtain ⟨olds, q1, q2, q3⟩ := hr.cells hp hS off (n * i.size) (by omega)
            have hfo : (Builtin.firstCells i.size n (.slice (some a) n c)).run P w.drew = .ok olds.toArray w.drew := by
              have := run_loadCells_list (P := P) w.drew a olds (fun j u hu => by
                have h0 : 0 < c := by
                  rcases Nat.eq_zero_or_pos n with h0 | h0
                  · have h0' : olds = [] := List.eq_nil_of_length_eq_zero (by rw [q2, h0, Nat.zero_mul])
                    subst h0'; simp at hu
                  · omega
                rw [hA h0, add_none]; exact q3 j u hu)
              rw [q2] at this
              simpa [Builtin.firstCells] using this
            exact fresh (some a) n c _ olds hr q1 e' q2 hfo (by omega) hb
          · cases ha
      · cases ha
    · cases ha
  · cases ha

theorem ok_append {c : Call} {x y : Operand} {t u e : TypeId} {d : TypeDesc} {i : TypeInfo} {ax ay : AX} (ho : o.op = .call c) (hcl : c.callee = .builtin .append) (hcx : c.args.toList = [x, y]) (ht : c.argTypes.toList = [t, u])
    (hu : P.underlying t = some (.slice e)) (hd : P.underlying u = some d) (hz : ∀ k, d ≠ .int k) (hi : P.info? e = some i) (hpos : 0 < i.size ∧ 0 < i.bytes) {z : List AV} (hzc : zeroCells P e = some z) (hzl : z.length = i.size)
    (hx : tr x = some ax) (hy : tr y = some ay) (ha : aop cf S ev (.append i.size i.bytes ax ay) = some (v, S')) : Gives w0 φ S' v ((execOp ρ o).run P w) := by
  have ky := hρ _ _ hy
  obtain ⟨i', zv, hi', hzv, hzV⟩ := zero_info (w0 := w0) (φ := φ) hzc
  rw [hi] at hi'; cases hi'
  simp only [aop, Option.bind_eq_some_iff] at ha
  obtain ⟨⟨ys, m⟩, hel, ha⟩ := ha
  dsimp only at ha
  obtain ⟨cvs, hv, hl, hlen, hf⟩ := first_cells (P := P) hr hpos.1 ky hel
  exact ok_app (i := i) (ys := ys) (m := m) hr hρ ho hcl hcx ht hpos (zv := zv) (by have := hzV.1.1; simp at this; omega) hx hv hl (fun base n c w' h1 h2 h3 => append_room hu hd hz hi hlen (hf w rfl) h1 h2 h3)
    (fun base n c olds h1 h2 h3 => append_grow hu hd hz hi hzv hlen (hf w.drew rfl) h1 h2 h3 hpos.2) ha

theorem ok_appz {c : Call} {x y : Operand} {t u e : TypeId} {i : TypeInfo} {ax ay : AX} (ho : o.op = .call c) (hcl : c.callee = .builtin .append) (hcx : c.args.toList = [x, y]) (ht : c.argTypes.toList = [t, u])
    (hu : P.underlying t = some (.slice e)) (hd : P.underlying u = some (.int .i64)) (hi : P.info? e = some i) (hpos : 0 < i.size ∧ 0 < i.bytes) {z : List AV} (hzc : zeroCells P e = some z) (hzl : z.length = i.size)
    (hx : tr x = some ax) (hy : tr y = some ay) (ha : aop cf S ev (.appz i.size i.bytes z ax ay) = some (v, S')) : Gives w0 φ S' v ((execOp ρ o).run P w) := by
  have ky := hρ _ _ hy
  obtain ⟨i', zv, hi', hzv, hzV⟩ := zero_info (w0 := w0) (φ := φ) hzc
  rw [hi] at hi'; cases hi'
  simp only [aop] at ha
  split at ha
  · rename_i mi he
    rw [he] at ky
    have e' := ky.int_inv
    split at ha
    · rename_i hc
      obtain ⟨h0, -, hb⟩ := hc
      obtain ⟨m, rfl⟩ : ∃ m : Nat, mi = m := ⟨mi.toNat, by omega⟩
      rw [Int.toNat_natCast] at ha
      have hzsz : zv.cells.size = i.size := by have := hzV.1.1; simp at this; omega
      have hzs : 0 < zv.cells.size := by omega
      have hq : (Builtin.zeroCells zv.cells m).toList = (List.replicate m zv.cells.toList).flatten := made_flat zv.cells hzs m
      have hbn : m * i.bytes ≤ 140737488355328 := by have : ((m * i.bytes : Nat) : Int) ≤ 140737488355328 := by push_cast; exact hb
                                                     omega
      have hmb : m ≤ m * i.bytes := Nat.le_mul_of_pos_right _ hpos.2
      have hw : IntKind.i64.wrap (m : Int) = m := by simp [IntKind.wrap, IntKind.signed, IntKind.bits]; omega
      have hng : ¬ (281474976710656 < (m : Int) * (i.bytes : Int)) := by have : (m : Int) * (i.bytes : Int) ≤ 140737488355328 := hb
                                                                         omega
      have hzV' := rep_V hzV m
      rw [← hq] at hzV'
      have hlz : (Builtin.zeroCells zv.cells m).toList.length = m * i.size := by rw [Array.length_toList, size_zeroCells, hzsz]
      have hes : m * i.size = 0 → Builtin.zeroCells zv.cells m = #[] := fun h => by
        have : (Builtin.zeroCells zv.cells m).size = 0 := by rw [size_zeroCells, hzsz, h]
        exact Array.eq_empty_of_size_eq_zero this
      have hng0 : ¬ ((m : Int) < 0) := by omega
      have hes0 : m * i.size = 0 → (Builtin.zeroCells zv.cells m).toList = [] := fun h => by rw [hes h]
      refine ok_app (i := i) (ys := (List.replicate m z).flatten) (m := m) hr hρ ho hcl hcx ht hpos (zv := zv) (e := e) hzsz hx hzV' hlz (fun base n c w' h1 h2 h3 => ?_) (fun base n c olds h1 h2 h3 => ?_) ha
      · rw [e']
        cases base with
        | none => rw [h3 rfl]; by_cases hz : m * i.size = 0 <;> simp [Builtin.append_, run_underlying hu, run_underlying hd, sizeOf, typeInfo, zeroValue, hi, hzv, asInt, asIntOf, hw, hng, hng0, h1, hz]
        | some a =>
          have h2 := h2 a rfl
          by_cases hz : m * i.size = 0
          · rw [hes0 hz] at h2; simp [Builtin.append_, run_underlying hu, run_underlying hd, sizeOf, typeInfo, zeroValue, hi, hzv, asInt, asIntOf, hw, hng, hng0, h1, hz, h2]
          · simp [Builtin.append_, run_underlying hu, run_underlying hd, sizeOf, typeInfo, zeroValue, hi, hzv, asInt, asIntOf, hw, hng, hng0, h1, hz, h2]
      · rw [e']
        have k1 : ¬ (n + m ≤ c) := by omega
        have k2 : ¬ (281474976710656 < Builtin.nextslicecap (n + m) c * i.bytes) := by have := growslice_fits h2 h3; omega
        have k3 : ¬ (i.bytes = 0) := by omega
        have hnm : n + m ≤ (n + m) * i.bytes := Nat.le_mul_of_pos_right _ hpos.2
        have k4 : ¬ ((9223372036854775807 : Int) < (n : Int) + (m : Int)) := by omega
        have k5 : IntKind.i64.max = 9223372036854775807 := rfl
        by_cases hz : m * i.size = 0
        · have hes1 := hes hz
          simp [Builtin.append_, run_underlying hu, run_underlying hd, sizeOf, typeInfo, zeroValue, hi, hzv, asInt, asIntOf, hw, hng, hng0, k1, k2, k3, k4, k5, Question.forced, run_askRoom, h1, newRow, grownCap, hz, hes1]
          try (congr 2; apply Array.ext'; simp)
        · simp [Builtin.append_, run_underlying hu, run_underlying hd, sizeOf, typeInfo, zeroValue, hi, hzv, asInt, asIntOf, hw, hng, hng0, k1, k2, k3, k4, k5, Question.forced, run_askRoom, h1, newRow, grownCap, hz]
          try (congr 2; apply Array.ext'; simp)
    · cases ha
  · cases ha

theorem ok_clear {c : Call} {x : Operand} {t e : TypeId} {ax : AX} {sz : Nat} {z : List AV} (ho : o.op = .call c) (hcl : c.callee = .builtin .clear) (hcx : c.args.toList = [x]) (ht : c.argTypes.toList = [t])
    (hu : P.underlying t = some (.slice e)) (hzc : zeroCells P e = some z) (hsz : szOf P e = some sz) (hzl : z.length = sz)
    (hx : tr x = some ax) (ha : aop cf S ev (.clear sz z ax) = some (v, S')) : Gives w0 φ S' v ((execOp ρ o).run P w) := by
  have kx := hρ _ _ hx
  have hat : c.argTypes = #[t] := by have := congrArg List.toArray ht; simpa using this
  obtain ⟨cs0, hcs⟩ := call_builtin (P := P) hr hρ ho hcl (vs := [ρ x]) (by rw [hcx]; rfl)
  have run : ∀ r w', (Builtin.clear_ #[t] o.type #[ρ x]).run P w = .ok r w' → (execOp ρ o).run P w = .ok (.value r) w' := fun r w' hr' => by
    rw [hcs, hat]; simp [builtin, hr']
  have nothing : ∀ b c', ρ x = .slice b 0 c' → v = .undef → S' = S → Gives w0 φ S' v ((execOp ρ o).run P w) := fun b c' e' h1 h2 => by
    subst h1; subst h2
    exact gives_value hr (run (.tuple #[]) w (by rw [e']; cases b <;> simp [Builtin.clear_, run_underlying hu])) .undef
  simp only [aop] at ha
  split at ha
  · rename_i he; rw [he] at kx; cases ha
    exact nothing _ _ kx.nilS_inv rfl rfl
  · rename_i he; rw [he] at kx; cases ha
    obtain ⟨b, e'⟩ := kx.emp_inv; exact nothing _ _ e' rfl rfl
  · rename_i he; rw [he] at kx; cases ha
    obtain ⟨b, c', e'⟩ := kx.nsl_inv; exact nothing _ _ e' rfl rfl
  · rename_i cs n he; rw [he] at kx
    split at ha
    · rename_i hn; subst hn; cases ha
      obtain ⟨a, c', cvs, e', _⟩ | ⟨_, _, e'⟩ := kx.csl_inv
      · exact nothing _ _ e' rfl rfl
      · exact nothing _ _ e' rfl rfl
    · cases ha
  · rename_i id off n sz' he
    rw [he] at kx
    split at ha
    · rename_i cs hS
      split at ha
      · rename_i hb; obtain ⟨rfl, hzl', hbd⟩ := hb
        cases ha
        obtain ⟨a, cc, p, e', hp, hA, _, _, hn, hpos, _⟩ := kx.sl_inv
        obtain ⟨zv, hzr, hzc'⟩ := run_zero (P := P) (w := w) hzc
        have hzV := constSs_V (w0 := w0) (φ := φ) hzc'
        have hrep := rep_V hzV n
        rcases Nat.eq_zero_or_pos n with h0 | h0
        · subst h0
          have hh : S.set id (.cells (cs.take off ++ (List.replicate 0 z).flatten ++ cs.drop (off + 0 * sz))) = S := by
            simp only [List.replicate_zero, List.flatten_nil, List.append_nil, Nat.zero_mul, Nat.add_zero, List.take_append_drop]
            apply List.ext_getElem?
            intro i
            rw [List.getElem?_set]
            split
            · rename_i hi; subst hi; rw [hS]; simp [(List.getElem?_eq_some_iff.1 hS).1]
            · rfl
          exact nothing _ _ e' rfl hh
        · have hlen : ((List.replicate n z).flatten).length = n * sz := by simp [hzl]
          have hcvl := hrep.1.1
          obtain ⟨h1, h2, h3⟩ := hr.write hp hS off hrep (by rw [hlen]; exact hbd)
          have hst := run_storeCells_cells (P := P) p.b (p.o + off) _ 0 w h2 h3 hrep.2
          simp only [Nat.add_zero] at hst
          rw [hlen] at h1
          refine ⟨φ, .tuple #[], _, .inl (run _ _ ?_), .refl _, h1, .undef⟩
          have hA := hA (by omega)
          have hzs : 0 < zv.cells.size := by have := hzV.1.1; simp at this; omega
          have hq : (Builtin.zeroCells zv.cells n).toList = (List.replicate n zv.cells.toList).flatten := made_flat zv.cells hzs n
          obtain ⟨m, rfl⟩ : ∃ m, n = m + 1 := ⟨n - 1, by omega⟩
          simp [Builtin.clear_, e', run_underlying hu, hzr, hq, hA, hst]
      · cases ha
    · cases ha
  · cases ha

end
end Go.Proofs.YtaajlbbooneiiaaDoor.Avm
set_option linter.unusedVariables false
set_option linter.unusedSimpArgs false
set_option linter.unusedSectionVars false
namespace Go.Proofs.YtaajlbbooneiiaaDoor.Avm
open Go.RowKit

/-- what a call leaves -/
def Back (w0 : World) (φ : Pc) (S' : Store) (v : AV) (e : Ending) (w' : World) : Prop :=
  ∃ φ' cv, e = .returned cv ∧ Ext φ φ' ∧ Rel w0 φ' S' w' ∧ V w0 φ' v cv
def Does (P : Program) (w0 : World) (φ : Pc) (S' : Store) (v : AV) (r : Result Next) : Prop :=
  Gives w0 φ S' v r ∨ ∃ f args w, r = .ok (.enter f args) w ∧ Calls P f args w (Back w0 φ S' v)
/-- what is told of calls is so -/
def CallOK (P : Program) (w0 : World) (cf : CallF) : Prop :=
  ∀ (f : Nat) (args : List AV) (S : Store) (v : AV) (S' : Store), cf f args S = some (v, S') → ∀ (φ : Pc) (w : World) (vs : List Value), Rel w0 φ S w → Vs w0 φ args vs →
    Does P w0 φ S' v ((callFunc f vs.toArray).run P w)

section
variable {P : Program} {w0 w : World} {φ : Pc} {S S' : Store} {ev : AX → AV} {ρ : Operand → Value} {tr : Operand → Option AX} {cf : CallF} {o : Oper} {v : AV}

theorem evs_V (hρ : ∀ x ax, tr x = some ax → V w0 φ (ev ax) (ρ x)) : ∀ (xs : List Operand) (axs : List AX), trs tr xs = some axs → Vs w0 φ (evs ev axs) (xs.map ρ)
  | [], axs, h => by cases h; exact .nil
  | x :: xs, axs, h => by
    simp only [trs, Option.bind_eq_some_iff, Option.map_eq_some_iff] at h
    obtain ⟨a, ha, axs', h', rfl⟩ := h
    exact .cons (hρ _ _ ha) (evs_V hρ xs axs' h')

variable (hr : Rel w0 φ S w) (hρ : ∀ x ax, tr x = some ax → V w0 φ (ev ax) (ρ x)) (hfn : ∀ f, ρ (.func f) = .func (.func f) #[] #[]) (hcf : CallOK P w0 cf)
include hr hρ hfn hcf

theorem ok_call {c : Call} (ho : o.op = .call c) {ao : AOp} (hc : compCall P tr c = some ao) (ha : aop cf S ev ao = some (v, S')) : Does P w0 φ S' v ((execOp ρ o).run P w) := by
  have hargs : c.args.map ρ = (c.args.toList.map ρ).toArray := by rw [← Array.toList_map, Array.toArray_toList]
  unfold compCall at hc
  split at hc
  · rename_i f hcl
    obtain ⟨axs, has, rfl⟩ := Option.map_eq_some_iff.1 hc
    have hv := evs_V hρ _ _ has
    have := hcf f _ S v S' ha φ w _ hr hv
    have hx : (execOp ρ o).run P w = (callFunc f (c.args.toList.map ρ).toArray).run P w := by
      simp only [execOp, ho, resolve, hcl, Deferred.ofValue, hfn, Sem.run_bind, Sem.run_pure, Result.andThen_ok, invoke, hargs]
      simp
    rw [hx]; exact this
  · rename_i x hnf hcl
    simp only [Option.bind_eq_some_iff, Option.map_eq_some_iff] at hc
    obtain ⟨ax, hx, axs, has, rfl⟩ := hc
    have hv := evs_V hρ _ _ has
    have kx := hρ _ _ hx
    simp only [aop] at ha
    split at ha
    · rename_i f cap he
      rw [he] at kx
      obtain ⟨cvs, e', hcap⟩ := kx.fn_inv
      have := hcf f _ S v S' ha φ w _ hr (hv.append hcap)
      have hx : (execOp ρ o).run P w = (callFunc f (c.args.toList.map ρ ++ cvs).toArray).run P w := by
        simp only [execOp, ho, resolve, hcl, Deferred.ofValue, e', Sem.run_bind, Sem.run_pure, Result.andThen_ok, invoke, hargs]
        simp
      rw [hx]; exact this
    · cases ha
  · rename_i hcl
    split at hc
    · rename_i x hcx hu
      obtain ⟨t, ht, hu⟩ := Option.bind_eq_some_iff.1 hu
      obtain ⟨ax, hx, rfl⟩ := Option.map_eq_some_iff.1 hc
      exact .inl (ok_len hr hρ ho hcl hcx ht hx (by simpa using hu) ha)
    · rename_i x e hcx hu
      obtain ⟨t, ht, hu⟩ := Option.bind_eq_some_iff.1 hu
      obtain ⟨ax, hx, rfl⟩ := Option.map_eq_some_iff.1 hc
      exact .inl (ok_len hr hρ ho hcl hcx ht hx (by simpa using ⟨e, hu⟩) ha)
    · rename_i x k e hcx hu
      obtain ⟨t, ht, hu⟩ := Option.bind_eq_some_iff.1 hu
      obtain ⟨ax, hx, rfl⟩ := Option.map_eq_some_iff.1 hc
      exact .inl (ok_mlen hr hρ ho hcl hcx ht hu hx ha)
    · cases hc
  · rename_i hcl
    split at hc
    · rename_i x y t u hcx ht
      split at hc
      · rename_i e hu hd
        simp only [Option.bind_eq_some_iff] at hc
        obtain ⟨i, hi, z, hz, hc⟩ := hc
        split at hc
        · rename_i hpos
          simp only [Option.bind_eq_some_iff, Option.map_eq_some_iff] at hc
          obtain ⟨ax, hx, ay, hy, rfl⟩ := hc
          exact .inl (ok_appz hr hρ ho hcl hcx ht hu hd hi ⟨hpos.1, hpos.2.1⟩ hz hpos.2.2 hx hy ha)
        · cases hc
      · cases hc
      · rename_i e d _ hnd hu hd
        simp only [Option.bind_eq_some_iff] at hc
        obtain ⟨i, hi, z, hz, hc⟩ := hc
        split at hc
        · rename_i hpos
          simp only [Option.bind_eq_some_iff, Option.map_eq_some_iff] at hc
          obtain ⟨ax, hx, ay, hy, rfl⟩ := hc
          refine .inl (ok_append hr hρ ho hcl hcx ht hu hd (fun k hk => ?_) hi ⟨hpos.1, hpos.2.1⟩ hz hpos.2.2 hx hy ha)
          subst hk
          first | exact hnd _ _ hu hd | exact hnd _ _ hd | exact hnd _ rfl hd | exact hnd _ rfl
        · cases hc
      · cases hc
    · cases hc
  · rename_i hcl
    split at hc
    · rename_i x t hcx ht
      split at hc
      · rename_i e hu
        simp only [Option.bind_eq_some_iff] at hc
        obtain ⟨z, hz, sz, hsz, hc⟩ := hc
        split at hc
        · rename_i hzl
          obtain ⟨ax, hx, rfl⟩ := Option.map_eq_some_iff.1 hc
          exact .inl (ok_clear hr hρ ho hcl hcx ht hu hz hsz hzl hx ha)
        · cases hc
      · cases hc
    · cases hc
  · rename_i hcl
    obtain ⟨axs, has, rfl⟩ := Option.map_eq_some_iff.1 hc
    exact .inl (ok_mx hr hρ ho (by simpa using hcl) (evs_V hρ _ _ has) ha)
  · rename_i hcl
    obtain ⟨axs, has, rfl⟩ := Option.map_eq_some_iff.1 hc
    exact .inl (ok_mx hr hρ ho (by simpa using hcl) (evs_V hρ _ _ has) ha)
  · cases hc

theorem op_ok {ao : AOp} (hc : compOp P tr o.op = some ao) (ha : aop cf S ev ao = some (v, S')) : Does P w0 φ S' v ((execOp ρ o).run P w) := by
  cases ho : o.op with
  | move x => exact .inl (ok_move hr hρ (.inl ho) hc ha)
  | assign x => exact .inl (ok_move hr hρ (.inr ho) hc ha)
  | pick c a b => exact .inl (ok_pick hr hρ ho hc ha)
  | alloc e => exact .inl (ok_new hr hρ ho hc ha)
  | box e x => exact .inl (ok_box hr hρ ho hc ha)
  | build t ps => exact .inl (ok_build hr hρ ho hc ha)
  | buildSlice t len ps => exact .inl (ok_lit hr hρ ho hc ha)
  | load t a => exact .inl (ok_load hr hρ ho hc ha)
  | store t a b => exact .inl (ok_store hr hρ ho hc ha)
  | nilCheck x => exact .inl (ok_nilck hr hρ ho hc ha)
  | unOp op t x => exact .inl (ok_una hr hρ ho hc ha)
  | fieldAddr t x f => exact .inl (ok_faddr hr hρ ho hc ha)
  | field t x f => exact .inl (ok_field hr hρ ho hc ha)
  | indexAddr t x i => exact .inl (ok_iaddr hr hρ ho hc ha)
  | index t x i => exact .inl (ok_sidx hr hρ ho hc ha)
  | extract t i => exact .inl (ok_ext hr hρ ho hc ha)
  | makeSlice t l c => exact .inl (ok_mksl hr hρ ho hc ha)
  | makeFunc fn first cap => exact .inl (ok_mkfn hr hρ ho hc ha (evs_V hρ))
  | call c => rw [ho] at hc; exact ok_call hr hρ hfn hcf ho hc ha
  | binOp op t x y u =>
    rw [ho] at hc
    simp only [compOp, Option.bind_eq_some_iff] at hc
    obtain ⟨ax, hx, ay, hy, hc⟩ := hc
    have hc0 : compOp P tr o.op = some ao := by rw [ho]; simp only [compOp, hx, hy, Option.bind_some]; exact hc
    split at hc
    · cases hc; exact .inl (ok_bin hr hρ ho hc0 rfl hx hy ha)
    · cases hc; exact .inl (ok_bin hr hρ ho hc0 rfl hx hy ha)
    · rename_i hu
      split at hc
      · cases hc; exact .inl (ok_eqb hr hρ ho (neg := false) rfl hu hx hy ha)
      · cases hc; exact .inl (ok_eqb hr hρ ho (neg := true) rfl hu hx hy ha)
      · cases hc
    · rename_i fs hu
      split at hc
      · obtain ⟨ks, hk, rfl⟩ := Option.map_eq_some_iff.1 hc; exact .inl (ok_eqs hr hρ ho (neg := false) rfl hk hx hy ha)
      · obtain ⟨ks, hk, rfl⟩ := Option.map_eq_some_iff.1 hc; exact .inl (ok_eqs hr hρ ho (neg := true) rfl hk hx hy ha)
      · cases hc
    · split at hc
      · obtain ⟨cl, hk, rfl⟩ := Option.map_eq_some_iff.1 hc; exact .inl (ok_eqn hr hρ ho (neg := false) rfl hk hx hy ha)
      · obtain ⟨cl, hk, rfl⟩ := Option.map_eq_some_iff.1 hc; exact .inl (ok_eqn hr hρ ho (neg := true) rfl hk hx hy ha)
      · cases hc
  | convert s d x =>
    rw [ho] at hc
    simp only [compOp, Option.bind_eq_some_iff] at hc
    obtain ⟨ax, hx, hc⟩ := hc
    split at hc
    · rename_i hs hd; cases hc; exact .inl (ok_i2i hr hρ ho hs hd hx ha)
    · rename_i hs hd; cases hc; exact .inl (ok_same hr hρ ho hs hd hx ha)
    · rename_i hs hd
      split at hc
      · rename_i he; cases hc; exact .inl (ok_s2b hr hρ ho hs hd he hx ha)
      · cases hc
    · rename_i hs hd
      split at hc
      · rename_i he; cases hc; exact .inl (ok_b2s hr hρ ho hs he hd hx ha)
      · cases hc
    · rename_i hs hd
      split at hc
      · rename_i he
        split at hc
        · rename_i hsd; cases hc; exact .inl (ok_mark hr hρ ho hs hd he hsd hx ha)
        · cases hc
      · cases hc
    · cases hc
  | makeMap t r =>
    rw [ho] at hc
    cases r with
    | none => simp only [compOp, Option.some.injEq] at hc; subst hc; exact .inl (ok_mkmap hr hρ ho ha)
    | some r => simp [compOp] at hc
  | slice t x lo hi mx =>
    rw [ho] at hc
    simp only [compOp] at hc
    split at hc
    · rename_i hu
      split at hc
      · simp only [Option.bind_eq_some_iff, Option.map_eq_some_iff] at hc
        obtain ⟨ax, hx, alo, hlo, ahi, hhi, rfl⟩ := hc
        exact .inl (ok_sslice hr hρ ho hu hx hlo hhi ha)
      · cases hc
    · rename_i e hu
      simp only [Option.bind_eq_some_iff, Option.map_eq_some_iff] at hc
      obtain ⟨sz, hsz, ax, hx, alo, hlo, ahi, hhi, amx, hmx, rfl⟩ := hc
      exact .inl (ok_slice hr hρ ho hu hsz hx hlo hhi hmx ha)
    · cases hc
  | lookup t m k ok =>
    rw [ho] at hc
    simp only [compOp] at hc
    split at hc
    · rename_i kt e hu
      simp only [Option.bind_eq_some_iff, Option.map_eq_some_iff] at hc
      obtain ⟨kk, hk, z, hz, am, hm, ak, hak, rfl⟩ := hc
      exact .inl (ok_look hr hρ ho hu hk hz hm hak ha)
    · cases hc
  | mapUpdate t m k y =>
    rw [ho] at hc
    simp only [compOp] at hc
    split at hc
    · rename_i kt e hu
      simp only [Option.bind_eq_some_iff, Option.map_eq_some_iff] at hc
      obtain ⟨kk, hk, am, hm, ak, hak, ay, hy, rfl⟩ := hc
      exact .inl (ok_mapu hr hρ ho hu hk hm hak hy ha)
    · cases hc
  | _ => rw [ho] at hc; simp [compOp] at hc

theorem frz_ok {al : List Nat} {ao : AOp} (hc : compOp P tr o.op = some ao) (ha : aop cf S ev (opOf al o ao) = some (v, S')) : Does P w0 φ S' v ((execOp ρ o).run P w) := by
  have key : makesRow o.op = true → aop cf S ev (frz ao) = some (v, S') → Does P w0 φ S' v ((execOp ρ o).run P w) := fun hm ha => by
    cases ho : o.op with
    | buildSlice t len ps => exact .inl (ok_litf hr hρ ho hc ha)
    | slice t x lo hi mx =>
      have hc0 := hc
      rw [ho] at hc
      simp only [compOp] at hc
      split at hc
      · split at hc
        · simp only [Option.bind_eq_some_iff, Option.map_eq_some_iff] at hc
          obtain ⟨ax, hx, alo, hlo, ahi, hhi, rfl⟩ := hc
          exact op_ok hr hρ hfn hcf hc0 ha
        · cases hc
      · rename_i e hu
        simp only [Option.bind_eq_some_iff, Option.map_eq_some_iff] at hc
        obtain ⟨sz, hsz, ax, hx, alo, hlo, ahi, hhi, amx, hmx, rfl⟩ := hc
        cases lo with
        | none => simp only [trO, Option.some.injEq] at hlo; subst hlo; exact op_ok hr hρ hfn hcf hc0 ha
        | some lo =>
          cases hi with
          | none => simp only [trO, Option.some.injEq] at hhi; subst hhi; obtain ⟨al, q1, rfl⟩ := Option.map_eq_some_iff.1 hlo; exact op_ok hr hρ hfn hcf hc0 ha
          | some hi =>
            obtain ⟨al, q1, rfl⟩ := Option.map_eq_some_iff.1 hlo
            obtain ⟨ah, q2, rfl⟩ := Option.map_eq_some_iff.1 hhi
            cases mx with
            | none => simp only [trO, Option.some.injEq] at hmx; subst hmx; exact .inl (ok_slicex hr hρ ho hu hsz hx q1 q2 ha)
            | some m => obtain ⟨am, q3, rfl⟩ := Option.map_eq_some_iff.1 hmx; exact op_ok hr hρ hfn hcf hc0 ha
      · cases hc
    | convert s d x =>
      have hc0 := hc
      rw [ho] at hc
      simp only [compOp, Option.bind_eq_some_iff] at hc
      obtain ⟨ax, hx, hc⟩ := hc
      split at hc
      · cases hc; exact op_ok hr hρ hfn hcf hc0 ha
      · cases hc; exact op_ok hr hρ hfn hcf hc0 ha
      · rename_i hs hd
        split at hc
        · rename_i he; cases hc; exact .inl (ok_s2bf hr hρ ho hs hd he hx ha)
        · cases hc
      · split at hc
        · cases hc; exact op_ok hr hρ hfn hcf hc0 ha
        · cases hc
      · split at hc
        · split at hc
          · cases hc; exact op_ok hr hρ hfn hcf hc0 ha
          · cases hc
        · cases hc
      · cases hc
    | _ => rw [ho] at hm; cases hm
  have keyN : makesRow o.op = true → aop cf S ev (frzN ao) = some (v, S') → Does P w0 φ S' v ((execOp ρ o).run P w) := fun hm ha => by
    cases ho : o.op with
    | buildSlice t len ps => exact .inl (ok_litn hr hρ ho hc ha)
    | slice t x lo hi mx =>
      have hc0 := hc
      rw [ho] at hc
      simp only [compOp] at hc
      split at hc
      · split at hc
        · simp only [Option.bind_eq_some_iff, Option.map_eq_some_iff] at hc
          obtain ⟨ax, hx, alo, hlo, ahi, hhi, rfl⟩ := hc
          exact op_ok hr hρ hfn hcf hc0 ha
        · cases hc
      · simp only [Option.bind_eq_some_iff, Option.map_eq_some_iff] at hc
        obtain ⟨sz, hsz, ax, hx, alo, hlo, ahi, hhi, amx, hmx, rfl⟩ := hc
        exact op_ok hr hρ hfn hcf hc0 ha
      · cases hc
    | convert s d x =>
      have hc0 := hc
      rw [ho] at hc
      simp only [compOp, Option.bind_eq_some_iff] at hc
      obtain ⟨ax, hx, hc⟩ := hc
      repeat' split at hc
      all_goals first | (cases hc; exact op_ok hr hρ hfn hcf hc0 ha) | cases hc
    | _ => rw [ho] at hm; cases hm
  unfold opOf at ha
  split at ha
  · split at ha
    · rename_i h; exact key (by simp only [Bool.and_eq_true] at h; exact h.2) ha
    · split at ha
      · rename_i h; exact keyN (by simp only [Bool.and_eq_true] at h; exact h.2) ha
      · exact op_ok hr hρ hfn hcf hc ha
  · exact op_ok hr hρ hfn hcf hc ha

end

/-- an operation done, the rest goes on -/
theorem Does.upon {P : Program} {w0 : World} {φ : Pc} {S' : Store} {v : AV} {r : Result Next} {o : Oper} {a : Act} {K : Act → World → Prop} {Q : Exit → Act → World → Prop} (h : Does P w0 φ S' v r)
    (hK : ∀ φ' cv w', Ext φ φ' → Rel w0 φ' S' w' → V w0 φ' v cv → K (a.put o.dst cv) w') : o.upon P a K Q r := by
  rcases h with ⟨φ', cv, w', hres, hx, hrel, hV⟩ | ⟨f, args, w, rfl, hcall⟩
  · rcases hres with rfl | ⟨rfl, rfl⟩
    · exact hK _ _ _ hx hrel hV
    · exact hK _ _ _ hx hrel hV
  · rw [Oper.upon_enter]
    refine Calls.mono hcall fun e w'' he => ?_
    obtain ⟨φ', cv, rfl, hx, hrel, hV⟩ := he
    exact hK _ _ _ hx hrel hV

end Go.Proofs.YtaajlbbooneiiaaDoor.Avm
set_option linter.unusedVariables false
set_option linter.unusedSimpArgs false
set_option linter.unusedSectionVars false
namespace Go.Proofs.YtaajlbbooneiiaaDoor.Avm
open Go.RowKit

structure St where
  g : Frame
  S : Store
  L : List AV

def Stp (cf : CallF) (i : AIns) (s t : St) : Prop :=
  ∃ v, t.L = s.L ++ [v] ∧ t.g = (match i.dst with | some d => upd s.g d v | none => s.g) ∧
    ((wantA i s.L = some true ∧ aop cf s.S (ev s.g s.L) i.op = some (v, t.S)) ∨ (wantA i s.L = some false ∧ v = .undef ∧ t.S = s.S))

section
variable {cf : CallF}
theorem ains_cons {g : Frame} {S : Store} {L : List AV} {i : AIns} {rest : List AIns} {r : Frame × Store × List AV} (h : ains cf g S L (i :: rest) = some r) :
    ∃ t, Stp cf i ⟨g, S, L⟩ t ∧ ains cf t.g t.S t.L rest = some r := by
  simp only [ains] at h
  split at h
  · rename_i hg
    obtain ⟨⟨v, S'⟩, h1, h2⟩ := Option.bind_eq_some_iff.1 h
    exact ⟨⟨_, S', L ++ [v]⟩, ⟨v, rfl, rfl, .inl ⟨by simp [wantA, hg], h1⟩⟩, h2⟩
  · rename_i j b hg
    split at h
    · rename_i t ht
      split at h
      · rename_i htb
        obtain ⟨⟨v, S'⟩, h1, h2⟩ := Option.bind_eq_some_iff.1 h
        exact ⟨⟨_, S', L ++ [v]⟩, ⟨v, rfl, rfl, .inl ⟨by simp only [wantA, hg, ht]; simp [htb], h1⟩⟩, h2⟩
      · rename_i htb
        exact ⟨⟨_, S, L ++ [.undef]⟩, ⟨.undef, rfl, rfl, .inr ⟨by simp only [wantA, hg, ht]; simp [htb], rfl, rfl⟩⟩, h⟩
    · rename_i vs ht
      exact ⟨⟨_, S, L ++ [.undef]⟩, ⟨.undef, rfl, rfl, .inr ⟨by simp only [wantA, hg, ht], rfl, rfl⟩⟩, h⟩
    · cases h

theorem stp_ains {g : Frame} {S : Store} {L : List AV} {i : AIns} {rest : List AIns} {t : St} (h : Stp cf i ⟨g, S, L⟩ t) : ains cf g S L (i :: rest) = ains cf t.g t.S t.L rest := by
  obtain ⟨v, h1, h2, h3⟩ := h
  obtain ⟨tg, tS, tL⟩ := t
  simp only at h1 h2 h3; subst h1 h2
  simp only [ains]
  cases hg : i.guard with
  | none =>
    simp only [wantA, hg] at h3
    rcases h3 with ⟨_, ha⟩ | ⟨hw, _⟩
    · simp only [ha, Option.bind_some]; rfl
    · cases hw
  | some p =>
    obtain ⟨j, b⟩ := p
    simp only [wantA, hg] at h3
    simp only
    generalize L.getD j AV.undef = q at h3
    cases q with
    | bool t =>
      simp only [Option.some.injEq] at h3 ⊢
      rcases h3 with ⟨hw, ha⟩ | ⟨hw, rfl, rfl⟩
      · rw [if_pos (of_decide_eq_true hw), ha]; rfl
      · rw [if_neg (of_decide_eq_false hw)]; rfl
    | tup vs =>
      rcases h3 with ⟨hw, _⟩ | ⟨hw, rfl, rfl⟩
      · cases hw
      · rfl
    | _ => rcases h3 with ⟨hw, _⟩ | ⟨hw, _⟩ <;> cases hw

/-- the states that a run goes through -/
theorem trace : ∀ (ins : List AIns) (g : Frame) (S : Store) (L : List AV) (r : Frame × Store × List AV), ains cf g S L ins = some r →
    ∃ st : Nat → St, st 0 = ⟨g, S, L⟩ ∧ (∀ k i, ins[k]? = some i → Stp cf i (st k) (st (k + 1))) ∧ r = ((st ins.length).g, (st ins.length).S, (st ins.length).L) ∧
      ∀ k, k ≤ ins.length → ains cf g S L (ins.take k) = some ((st k).g, (st k).S, (st k).L)
  | [], g, S, L, r, h => ⟨fun _ => ⟨g, S, L⟩, rfl, fun k i hi => by simp at hi, by simpa [ains] using h.symm, fun k hk => by simp at hk; subst hk; rfl⟩
  | i :: ins, g, S, L, r, h => by
    obtain ⟨t, h1, h2⟩ := ains_cons h
    obtain ⟨st, q1, q2, q3, q4⟩ := trace ins t.g t.S t.L r h2
    have q1' : st 0 = t := q1
    refine ⟨fun k => match k with | 0 => ⟨g, S, L⟩ | k + 1 => st k, rfl, fun k j hj => ?_, q3, fun k hk => ?_⟩
    · cases k with
      | zero => simp at hj; subst hj; simp only; rw [q1']; exact h1
      | succ k => exact q2 k j (by simpa using hj)
    · cases k with
      | zero => rfl
      | succ k =>
        rw [List.take_succ_cons, stp_ains h1]
        exact q4 k (by simpa using hk)

theorem aop_same {e : AX → AV} {op : AOp} (hne : isEvent op = false) (hnr : isRead op = false) (S T : Store) : aop cf T e op = (aop cf S e op).map fun p => (p.1, T) := by
  cases op <;> simp only [isEvent, isRead, Bool.true_eq_false, reduceCtorEq] at hne hnr <;> simp only [aop]
  all_goals try simp only [Option.map_map, Option.map_some, Function.comp_def, Option.map_none]
  case slice sz x lo hi mx =>
    split
    · cases optInt e 0 lo <;> simp only [Option.bind_none, Option.bind_some, Option.map_none]
      cases optInt e 0 hi <;> simp only [Option.bind_none, Option.bind_some, Option.map_none]
      cases optInt e 0 mx <;> simp only [Option.bind_none, Option.bind_some, Option.map_none]
      split <;> rfl
    · cases optInt e 0 lo <;> simp only [Option.bind_none, Option.bind_some, Option.map_none]
      cases optInt e 0 hi <;> simp only [Option.bind_none, Option.bind_some, Option.map_none]
      cases optInt e 0 mx <;> simp only [Option.bind_none, Option.bind_some, Option.map_none]
      split <;> rfl
    · cases optInt e 0 lo <;> simp only [Option.bind_none, Option.bind_some, Option.map_none]
      cases optInt e 0 hi <;> simp only [Option.bind_none, Option.bind_some, Option.map_none]
      cases optInt e 0 mx <;> simp only [Option.bind_none, Option.bind_some, Option.map_none]
      split <;> rfl
    · rename_i n _
      cases optInt e 0 lo <;> simp only [Option.bind_none, Option.bind_some, Option.map_none]
      cases optInt e n hi <;> simp only [Option.bind_none, Option.bind_some, Option.map_none]
      cases optInt e n mx <;> simp only [Option.bind_none, Option.bind_some, Option.map_none]
      split <;> rfl
    · rename_i n _ _
      cases optInt e 0 lo <;> simp only [Option.bind_none, Option.bind_some, Option.map_none]
      cases optInt e n hi <;> simp only [Option.bind_none, Option.bind_some, Option.map_none]
      cases optInt e n mx <;> simp only [Option.bind_none, Option.bind_some, Option.map_none]
      split <;> rfl
    · rename_i n c _ _
      cases optInt e 0 lo <;> simp only [Option.bind_none, Option.bind_some, Option.map_none]
      cases optInt e n hi <;> simp only [Option.bind_none, Option.bind_some, Option.map_none]
      cases optInt e c mx <;> simp only [Option.bind_none, Option.bind_some, Option.map_none]
      split <;> rfl
    · rfl
  case sslice x lo hi =>
    split
    · rename_i s _
      cases optInt e 0 lo <;> simp only [Option.bind_none, Option.bind_some, Option.map_none]
      cases optInt e s.length hi <;> simp only [Option.bind_none, Option.bind_some, Option.map_none]
      split <;> rfl
    · rfl
  all_goals
    repeat' first
      | rfl
      | (simp only [Option.map_map, Option.map_some, Function.comp_def, Option.map_none]; done)
      | split

theorem aop_pure {S S' : Store} {e : AX → AV} {op : AOp} {v : AV} (hne : isEvent op = false) (hnr : isRead op = false) (h : aop cf S e op = some (v, S')) (T : Store) : aop cf T e op = some (v, T) := by
  rw [aop_same hne hnr S T, h]; rfl

theorem aop_keeps {S S' : Store} {e : AX → AV} {op : AOp} {v : AV} (hne : isEvent op = false) (h : aop cf S e op = some (v, S')) : S' = S := by
  cases hnr : isRead op with
  | false =>
    rw [aop_same hne hnr S S] at h
    obtain ⟨p, _, hp⟩ := Option.map_eq_some_iff.1 h
    cases hp; rfl
  | true =>
    cases op <;> simp only [isRead, Bool.true_eq_false, reduceCtorEq] at hnr <;> simp only [aop] at h
    · obtain ⟨_, _, hp⟩ := Option.map_eq_some_iff.1 h; cases hp; rfl
    · obtain ⟨_, _, h⟩ := Option.bind_eq_some_iff.1 h
      obtain ⟨_, _, hp⟩ := Option.map_eq_some_iff.1 h; cases hp; rfl
    · split at h
      · split at h
        · split at h
          · cases h; rfl
          · cases h
        · cases h
      · cases h
    · split at h
      · split at h
        · cases h; rfl
        · cases h
      · split at h
        · split at h
          · obtain ⟨r, _, hh⟩ := Option.map_eq_some_iff.1 h
            cases r <;> (cases hh; rfl)
          · cases h
        · cases h
      · cases h
    · split at h
      · cases h; rfl
      · split at h
        · cases h; rfl
        · cases h
      · cases h
end

/-- the states of a whole run -/
structure Tr (cf : CallF) (g : Frame) (S : Store) (ins : List AIns) (st : Nat → St) : Prop where
  zero : st 0 = ⟨g, S, []⟩
  step : ∀ k i, ins[k]? = some i → Stp cf i (st k) (st (k + 1))
  at' : ∀ k, k ≤ ins.length → storeAt cf g S ins k = some ((st k).g, (st k).S, (st k).L)

section
variable {cf : CallF} {g : Frame} {S : Store} {ins : List AIns} {st : Nat → St} (h : Tr cf g S ins st)
include h
theorem Tr.stp {k : Nat} (hk : k < ins.length) : ∃ i, ins[k]? = some i ∧ Stp cf i (st k) (st (k + 1)) := ⟨ins[k], List.getElem?_eq_getElem hk, h.step k _ (List.getElem?_eq_getElem hk)⟩
theorem Tr.len : ∀ k, k ≤ ins.length → (st k).L.length = k
  | 0, _ => by rw [h.zero]; rfl
  | k + 1, hk => by
    obtain ⟨i, _, v, h1, _⟩ := h.stp (show k < ins.length by omega)
    rw [h1, List.length_append, Tr.len k (by omega)]; rfl
theorem Tr.old {m k i : Nat} (hkm : k ≤ m) (hm : m ≤ ins.length) (hi : i < k) : (st m).L[i]? = (st k).L[i]? := by
  induction m with
  | zero => omega
  | succ m ih =>
    by_cases e : k = m + 1
    · rw [e]
    · obtain ⟨i', _, v, h1, _⟩ := h.stp (show m < ins.length by omega)
      rw [h1, List.getElem?_append_left (by rw [h.len m (by omega)]; omega)]
      exact ih (by omega) (by omega)
/-- what instruction j gave -/
theorem Tr.val {j : Nat} (hj : j < ins.length) : ∃ i v, ins[j]? = some i ∧ (st (j + 1)).L = (st j).L ++ [v] ∧ (∀ m, j < m → m ≤ ins.length → (st m).L[j]? = some v) ∧
    (st (j + 1)).g = (match i.dst with | some d => upd (st j).g d v | none => (st j).g) ∧
    ((wantA i (st j).L = some true ∧ aop cf (st j).S (ev (st j).g (st j).L) i.op = some (v, (st (j + 1)).S)) ∨ (wantA i (st j).L = some false ∧ v = .undef ∧ (st (j + 1)).S = (st j).S)) := by
  obtain ⟨i, hi, v, h1, h2, h3⟩ := h.stp hj
  refine ⟨i, v, hi, h1, fun m hm hml => ?_, h2, h3⟩
  rw [h.old (k := j + 1) (by omega) hml (by omega), h1]
  have := h.len j (by omega)
  rw [List.getElem?_append_right (by omega), this]; simp
theorem Tr.same {a b : Nat} (hab : a ≤ b) (hb : b ≤ ins.length) (hn : ∀ j i, a ≤ j → j < b → ins[j]? = some i → isEvent i.op = false) : (st b).S = (st a).S := by
  induction b with
  | zero => have : a = 0 := by omega
            subst this; rfl
  | succ b ih =>
    by_cases e : a = b + 1
    · subst e; rfl
    · rw [← ih (by omega) (by omega) fun j i h1 h2 => hn j i h1 (by omega)]
      obtain ⟨i, v, hi, _, _, _, h3⟩ := h.val (show b < ins.length by omega)
      rcases h3 with ⟨_, ha⟩ | ⟨_, _, e⟩
      · exact aop_keeps (hn b i (by omega) (by omega) hi) ha
      · exact e
theorem Tr.slot_old {t : Nat} : ∀ k, k ≤ ins.length → (∀ i o, i < k → ins[i]? = some o → o.dst ≠ some t) → (st k).g t = g t
  | 0, _, _ => by rw [h.zero]
  | k + 1, hk, hn => by
    obtain ⟨i, v, hi, _, _, h2, _⟩ := h.val (show k < ins.length by omega)
    rw [h2, ← Tr.slot_old k (by omega) fun j o hj => hn j o (by omega)]
    cases hd : i.dst with
    | some d =>
      have : t ≠ d := fun e => hn k i (by omega) hi (by rw [hd, e])
      simp only [upd_apply, if_neg this]
    | none => rfl
theorem Tr.slot_new {t j : Nat} {o : AIns} {v : AV} (hj : ins[j]? = some o) (hd : o.dst = some t) (hv : (st (j + 1)).L = (st j).L ++ [v]) : ∀ k, j < k → k ≤ ins.length → (∀ i o', j < i → i < k → ins[i]? = some o' → o'.dst ≠ some t) → (st k).g t = v
  | 0, h0, _, _ => by omega
  | k + 1, hjk, hk, hn => by
    obtain ⟨i, v', hi, hv', _, h2, _⟩ := h.val (show k < ins.length by omega)
    rw [h2]
    by_cases e : j = k
    · subst e
      rw [hi] at hj; cases hj
      rw [hd]; simp only [upd_apply, if_true]
      rw [hv'] at hv
      simpa using hv
    · rw [← Tr.slot_new hj hd hv k (by omega) (by omega) fun i o' a b => hn i o' a (by omega)]
      cases hd' : i.dst with
      | some d =>
        have : t ≠ d := fun e' => hn k i (by omega) (by omega) hi (by rw [hd', e'])
        simp only [upd_apply, if_neg this]
      | none => rfl
end

theorem floats_mem {cf : CallF} {g : Frame} {S : Store} {ins : List AIns} {st : Nat → St} (h : Tr cf g S ins st) : ∀ {fl : List (Nat × Nat)}, floats cf g S ins fl = true → ∀ {i j : Nat}, (i, j) ∈ fl → i < ins.length → j < ins.length →
    ∀ {o : AIns} {v : AV}, ins[i]? = some o → wantA o (st i).L = some true → (st (i + 1)).L = (st i).L ++ [v] → ∃ T', aop cf (st (if i < j then j + 1 else j)).S (ev (st i).g (st i).L) o.op = some (v, T')
  | [], hf, i, j, hm, hi, hj, o, v, ho, hw, hv => by simp at hm
  | (i', j') :: fl, hf, i, j, hm, hi, hj, o, v, ho, hw, hv => by
    simp only [floats, Bool.and_eq_true] at hf
    rcases List.mem_cons.1 hm with e | hm
    · simp only [Prod.mk.injEq] at e
      obtain ⟨e1, e2⟩ := e
      rw [← e1, ← e2] at hf
      have hf := hf.1
      have h1 := h.at' i (by omega)
      have h2 := h.at' (if i < j then j + 1 else j) (by split <;> omega)
      have h3 := h.at' (i + 1) (by omega)
      simp only [ho, h1, h2, h3, hw] at hf
      split at hf
      · rename_i q; simp at q
      · split at hf
        · rename_i v' T' ha
          have e := AV.beq_eq _ _ hf
          rw [hv] at e
          have : ((st i).L ++ [v]).getD i .undef = v := by
            have := h.len i (by omega)
            rw [List.getD_eq_getElem?_getD, List.getElem?_append_right (by omega), this]; simp
          rw [this] at e; subst e
          exact ⟨T', ha⟩
        · cases hf
    · exact floats_mem h hf.2 hm hi hj ho hw hv

end Go.Proofs.YtaajlbbooneiiaaDoor.Avm
set_option linter.unusedVariables false
set_option linter.unusedSimpArgs false
set_option linter.unusedSectionVars false
namespace Go.Proofs.YtaajlbbooneiiaaDoor.Avm
open Go.RowKit

section congr
variable {P : Program} {tr tr' : Operand → Option AX}
theorem trs_congr : ∀ {xs : List Operand}, (∀ x ∈ xs, tr x = tr' x) → trs tr xs = trs tr' xs
  | [], _ => rfl
  | x :: xs, h => by simp only [trs, h x (.head _), trs_congr fun y hy => h y (.tail _ hy)]
theorem partsOf_congr {pl : Nat → Option (Nat × Nat)} : ∀ {ps : List (Nat × Operand)}, (∀ p ∈ ps, tr p.2 = tr' p.2) → partsOf tr pl ps = partsOf tr' pl ps
  | [], _ => rfl
  | (i, x) :: ps, h => by
    have h1 : tr x = tr' x := h (i, x) (.head _)
    simp only [partsOf, h1, partsOf_congr fun y hy => h y (.tail _ hy)]
theorem trO_congr : ∀ {x : Option Operand}, (∀ y, x = some y → tr y = tr' y) → trO tr x = trO tr' x
  | none, _ => rfl
  | some y, h => by simp only [trO, h y rfl]
theorem compCall_congr {c : Call} (h : ∀ x ∈ c.operands, tr x = tr' x) : compCall P tr c = compCall P tr' c := by
  have ha : trs tr c.args.toList = trs tr' c.args.toList := trs_congr fun x hx => h x (by simp [Call.operands]; exact .inr (by simpa using hx))
  have hm : ∀ x ∈ c.args.toList, tr x = tr' x := fun x hx => h x (by simp [Call.operands]; exact .inr (by simpa using hx))
  unfold compCall
  split
  · rw [ha]
  · rename_i x _ hc
    rw [ha, h x (by simp [Call.operands, hc])]
  · split
    · rename_i x hcx _; rw [hm x (by rw [hcx]; exact .head _)]
    · rename_i x _ hcx _; rw [hm x (by rw [hcx]; exact .head _)]
    · rename_i x _ _ hcx _; rw [hm x (by rw [hcx]; exact .head _)]
    · rfl
  · split
    · rename_i x y t u hcx _; rw [hm x (by rw [hcx]; exact .head _), hm y (by rw [hcx]; exact .tail _ (.head _))]
    · rfl
  · split
    · rename_i x t hcx _; rw [hm x (by rw [hcx]; exact .head _)]
    · rfl
  · rw [ha]
  · rw [ha]
  · rfl
theorem compOp_congr {o : Op} (h : ∀ x ∈ o.operands, tr x = tr' x) : compOp P tr o = compOp P tr' o := by
  cases o <;> simp only [Op.operands] at h <;> simp only [compOp]
  case call c => exact compCall_congr h
  case build t ps =>
    have hp : ∀ pl, partsOf tr pl ps.toList = partsOf tr' pl ps.toList := fun pl => partsOf_congr fun p hp => h p.2 (by simp; exact ⟨p.1, by simpa using hp⟩)
    simp only [hp]
  case buildSlice t n ps =>
    have hp : ∀ pl, partsOf tr pl ps.toList = partsOf tr' pl ps.toList := fun pl => partsOf_congr fun p hp => h p.2 (by simp; exact ⟨p.1, by simpa using hp⟩)
    simp only [hp]
  case makeFunc fn first cap =>
    have hp : trs tr cap.toList = trs tr' cap.toList := trs_congr fun x hx => h x (by simp; exact .inr (by simpa using hx))
    cases fn <;> simp only [hp]
  case slice t x lo hi mx =>
    have h1 : tr x = tr' x := h x (by simp)
    have h2 : trO tr lo = trO tr' lo := trO_congr fun y hy => h y (by subst hy; simp)
    have h3 : trO tr hi = trO tr' hi := trO_congr fun y hy => h y (by subst hy; simp)
    have h4 : trO tr mx = trO tr' mx := trO_congr fun y hy => h y (by subst hy; simp)
    simp only [h1, h2, h3, h4]
  case makeMap t r => cases r <;> rfl
  all_goals (first | rfl | (simp_all; done))
end congr

def dstOf (gl : List Nat) (o : Oper) : Option Nat := match o.dst with | some d => if gl.contains d then some d else none | none => none
def insOf (P : Program) (gl al : List Nat) (ds : List (Option Nat)) (o : Oper) : AIns := ⟨dstOf gl o, opOf al o ((compOp P (opd gl ds) o.op).getD .fail), o.guard⟩

theorem compOps_get (P : Program) (gl al : List Nat) : ∀ (ops : List Oper) (ds : List (Option Nat)) (j : Nat) (o : Oper), ops[j]? = some o → (compOps P gl al ds ops)[j]? = some (insOf P gl al (ds ++ (ops.take j).map (·.dst)) o)
  | [], _, _, _, h => by simp at h
  | o' :: ops, ds, 0, o, h => by
    simp at h; subst h
    simp only [compOps, List.getElem?_cons_zero, insOf, dstOf, List.take_zero, List.map_nil, List.append_nil]
    congr 2
    cases o'.guard <;> rfl
  | o' :: ops, ds, j + 1, o, h => by
    simp only [List.getElem?_cons_succ] at h
    simp only [compOps, List.getElem?_cons_succ, List.take_succ_cons, List.map_cons]
    rw [compOps_get P gl al ops (ds ++ [o'.dst]) j o h, List.append_assoc]; rfl
theorem compOps_len (P : Program) (gl al : List Nat) : ∀ (ops : List Oper) (ds : List (Option Nat)), (compOps P gl al ds ops).length = ops.length
  | [], _ => rfl
  | o :: ops, ds => by simp only [compOps, List.length_cons, compOps_len P gl al ops]

theorem distinct_spec : ∀ {ds : List (Option Nat)}, distinct ds = true → ∀ {i j d : Nat}, ds[i]? = some (some d) → ds[j]? = some (some d) → i = j
  | [], _, i, j, d, hi, _ => by simp at hi
  | x :: ds, h, i, j, d, hi, hj => by
    have hrest : distinct ds = true := by
      cases x with
      | none => exact h
      | some x => simp only [distinct, Bool.and_eq_true] at h; exact h.2
    have hnot : ∀ k, x = some d → ds[k]? = some (some d) → False := fun k e hk => by
      subst e
      simp only [distinct, Bool.and_eq_true, Bool.not_eq_true'] at h
      have : (some d) ∈ ds := List.mem_of_getElem? hk
      have := h.1
      simp_all
    cases i with
    | zero =>
      cases j with
      | zero => rfl
      | succ j => exact (hnot j (by simpa using hi) (by simpa using hj)).elim
    | succ i =>
      cases j with
      | zero => exact (hnot i (by simpa using hj) (by simpa using hi)).elim
      | succ j => rw [distinct_spec hrest (i := i) (j := j) (d := d) (by simpa using hi) (by simpa using hj)]

theorem idx_get {α : Type} [BEq α] [LawfulBEq α] {l : List α} {x : α} {i : Nat} (h : l.idxOf? x = some i) : l[i]? = some x := by
  obtain ⟨hi, he, _⟩ := List.findIdx?_eq_some_iff_getElem.1 (show l.findIdx? (· == x) = some i from h)
  rw [List.getElem?_eq_getElem hi]; congr; exact eq_of_beq he

/-- what is told of a region's operations -/
structure Okay (N : Nat) (ops : List Oper) : Prop where
  uniq : ∀ (i j d : Nat) (a b : Oper), ops[i]? = some a → ops[j]? = some b → a.dst = some d → b.dst = some d → i = j
  low : ∀ (j d : Nat) (o : Oper), ops[j]? = some o → o.dst = some d → d < N
  grd : ∀ (j g : Nat) (b : Bool) (o : Oper), ops[j]? = some o → o.guard = some (g, b) → g < j ∧ ∃ og dg, ops[g]? = some og ∧ og.dst = some dg
  aft : ∀ (j : Nat) (o : Oper), ops[j]? = some o → ∀ e ∈ o.after, Region.binds .any e = true → e.on < j
theorem opsOk_spec {N : Nat} {ops : List Oper} (h : opsOk N ops = true) : Okay N ops := by
  simp only [opsOk, Bool.and_eq_true, List.all_eq_true, List.mem_range] at h
  have key : ∀ j o, ops[j]? = some o → ((match o.dst with | some d => decide (d < N) | none => true) = true ∧ (match o.guard with | none => true | some (g, _) => decide (g < j) && ((ops[g]?).bind (·.dst)).isSome) = true) ∧
      ∀ e ∈ o.after.toList, (!Region.binds .any e || decide (e.on < j)) = true := fun j o hj => by
    have := h.2 j (List.getElem?_eq_some_iff.1 hj).1
    simp only [hj, Bool.and_eq_true, List.all_eq_true] at this
    exact this
  refine ⟨fun i j d a b ha hb hda hdb => distinct_spec h.1 (d := d) (by simp [ha, hda]) (by simp [hb, hdb]), fun j d o hj hd => ?_, fun j g b o hj hg => ?_, fun j o hj e he hb => ?_⟩
  · have := (key j o hj).1.1; rw [hd] at this; exact of_decide_eq_true this
  · have := (key j o hj).1.2
    rw [hg] at this
    simp only [Bool.and_eq_true, decide_eq_true_eq] at this
    obtain ⟨dg, hdg⟩ := Option.isSome_iff_exists.1 this.2
    obtain ⟨og, hog, hd⟩ := Option.bind_eq_some_iff.1 hdg
    exact ⟨this.1, og, dg, hog, hd⟩
  · have := (key j o hj).2 e (Array.mem_toList_iff.2 he)
    simp only [hb, Bool.not_true, Bool.false_or, decide_eq_true_eq] at this
    exact this

/-- what stands in the temporaries when those of Lst are done -/
structure RInv (w0 : World) (gl : List Nat) (N : Nat) (ops : List Oper) (g : Frame) (st : Nat → St) (Lst : Nat → Prop) (φ : Pc) (a : Act) : Prop where
  size : a.tmps.size = N
  defers : a.defers = []
  val : ∀ (i d : Nat) (o : Oper) (v : AV), Lst i → ops[i]? = some o → o.dst = some d → (st (i + 1)).L = (st i).L ++ [v] → V w0 φ v (a.tmps.getD d undef)
  slot : ∀ t, t ∈ gl → (∀ (i : Nat) (o : Oper), Lst i → ops[i]? = some o → o.dst ≠ some t) → V w0 φ (g t) (a.tmps.getD t undef)

section
variable {P : Program} {w0 w : World} {φ : Pc} {gl al : List Nat} {N : Nat} {ops : List Oper} {g : Frame} {S : Store} {st : Nat → St} {cf : CallF} {Lst : Nat → Prop} {a : Act}

theorem RInv.put (hi : RInv w0 gl N ops g st Lst φ a) (hk : Okay N ops) {j : Nat} {o : Oper} (hj : ops[j]? = some o) (hn : ¬ Lst j) {φ' : Pc} (hx : Ext φ φ') {v : AV} {cv : Value} (hv : (st (j + 1)).L = (st j).L ++ [v]) (hV : V w0 φ' v cv) :
    RInv w0 gl N ops g st (fun i => Lst i ∨ i = j) φ' (a.put o.dst cv) := by
  have get_ne : ∀ t, o.dst ≠ some t → (a.put o.dst cv).tmps.getD t undef = a.tmps.getD t undef := fun t ht => by
    cases hd : o.dst with
    | none => rfl
    | some d =>
      have : d ≠ t := fun e => ht (by rw [hd, e])
      simp [Act.put, Array.getElem?_setIfInBounds_ne this]
  have get_eq : ∀ d, o.dst = some d → (a.put o.dst cv).tmps.getD d undef = cv := fun d hd => by
    have := hk.low j d o hj hd
    rw [hd]; simp [Act.put, hi.size, this]
  refine ⟨?_, ?_, fun i d o' v' hl ho' hd' hv' => ?_, fun t ht hno => ?_⟩
  · cases hd : o.dst <;> simp [Act.put, hi.size]
  · cases hd : o.dst <;> simp [Act.put, hi.defers]
  · rcases hl with hl | rfl
    · by_cases e : o.dst = some d
      · have := hk.uniq i j d o' o ho' hj hd' e; subst this; exact absurd hl hn
      · rw [get_ne d e]; exact (hi.val i d o' v' hl ho' hd' hv').mono hx
    · rw [hj] at ho'; cases ho'
      rw [get_eq d hd']
      rw [hv] at hv'
      have : v = v' := by simpa using hv'
      subst this; exact hV
  · rw [get_ne t (hno j o (.inr rfl) hj)]
    exact (hi.slot t ht fun i o' hl => hno i o' (.inl hl)).mono hx

variable (hT : Tr cf g S (compOps P gl al [] ops) st) (hk : Okay N ops)
include hT hk

theorem opd_V (hi : RInv w0 gl N ops g st Lst φ a) {j : Nat} {o : Oper} (hj : ops[j]? = some o) {x : Operand} {ax : AX} (hx : opd gl ((ops.take j).map (·.dst)) x = some ax)
    (h1 : ∀ (t i : Nat) (o' : Oper), x = .tmp t → i < j → ops[i]? = some o' → o'.dst = some t → Lst i) (h2 : ∀ (t i : Nat) (o' : Oper), x = .tmp t → j ≤ i → ops[i]? = some o' → o'.dst = some t → ¬ Lst i) :
    V w0 φ (ev (st j).g (st j).L ax) (a.eval x) := by
  have hjl : j < ops.length := (List.getElem?_eq_some_iff.1 hj).1
  have hlen := compOps_len P gl al ops []
  cases x with
  | tmp t =>
    simp only [opd] at hx
    split at hx
    · rename_i hgl
      cases hx
      have hgl' : t ∈ gl := by simpa using hgl
      simp only [ev, Act.eval]
      by_cases hex : ∃ i o', i < j ∧ ops[i]? = some o' ∧ o'.dst = some t
      · obtain ⟨i, o', hij, ho', hd⟩ := hex
        have hl := h1 t i o' rfl hij ho' hd
        obtain ⟨ins, v, hins, hv, _⟩ := hT.val (j := i) (by rw [hlen]; omega)
        have hget := compOps_get P gl al ops [] i o' ho'
        have hdst : (insOf P gl al ([] ++ (ops.take i).map (·.dst)) o').dst = some t := by simp only [insOf, dstOf, hd, hgl, if_true]
        rw [hT.slot_new hget hdst hv j hij (by rw [hlen]; omega) fun k q hik hkj hq hqd => ?_]
        · exact hi.val i t o' v hl ho' hd hv
        · have hok : ops[k]? = some ops[k] := List.getElem?_eq_getElem (show k < ops.length by omega)
          have hgk := compOps_get P gl al ops [] k _ hok
          rw [hgk] at hq; cases hq
          have : (ops[k]'(by omega)).dst = some t := by
            simp only [insOf, dstOf] at hqd
            split at hqd
            · rename_i d hd'
              split at hqd
              · cases hqd; exact hd'
              · cases hqd
            · cases hqd
          have := hk.uniq i k t o' _ ho' hok hd this
          omega
      · rw [hT.slot_old j (by rw [hlen]; omega) fun i q hij hq hqd => ?_]
        · refine hi.slot t hgl' fun i o' hl ho' hd => ?_
          by_cases hij : i < j
          · exact hex ⟨i, o', hij, ho', hd⟩
          · exact h2 t i o' rfl (by omega) ho' hd hl
        · have hok : ops[i]? = some ops[i] := List.getElem?_eq_getElem (show i < ops.length by omega)
          have hgk := compOps_get P gl al ops [] i _ hok
          rw [hgk] at hq; cases hq
          refine hex ⟨i, _, hij, hok, ?_⟩
          simp only [insOf, dstOf] at hqd
          split at hqd
          · rename_i d hd'
            split at hqd
            · cases hqd; exact hd'
            · cases hqd
          · cases hqd
    · rename_i hgl
      obtain ⟨i, hidx, rfl⟩ := Option.map_eq_some_iff.1 hx
      have hget : ((ops.take j).map (·.dst))[i]? = some (some t) := by
        exact idx_get hidx
      rw [List.getElem?_map, List.getElem?_take] at hget
      split at hget
      · rename_i hij
        obtain ⟨o', ho', hd⟩ := Option.map_eq_some_iff.1 hget
        obtain ⟨ins, v, hins, hv, hLv, _⟩ := hT.val (j := i) (by rw [hlen]; omega)
        simp only [ev, Act.eval]
        rw [List.getD_eq_getElem?_getD, hLv j hij (by rw [hlen]; omega)]
        exact hi.val i t o' v (h1 t i o' rfl hij ho' hd) ho' hd hv
      · simp at hget
  | const v =>
    simp only [opd, Option.map_eq_some_iff] at hx
    obtain ⟨b, hb, rfl⟩ := hx
    exact constAV_V hb
  | func f =>
    simp only [opd, Option.some.injEq] at hx; subst hx
    exact .fn (cvs := []) rfl fun j v cv h => by simp at h
  | global n => simp [opd] at hx

/-- whether it is wanted -/
theorem wanted_V (hi : RInv w0 gl N ops g st Lst φ a) {j : Nat} {o : Oper} (hj : ops[j]? = some o) (hg : ∀ q b, o.guard = some (q, b) → Lst q) {b : Bool} (hb : wantA (insOf P gl al ((ops.take j).map (·.dst)) o) (st j).L = some b) :
    Region.wanted o (yielded ops.toArray a.tmps) = b := by
  have hlen := compOps_len P gl al ops []
  have hjl : j < ops.length := (List.getElem?_eq_some_iff.1 hj).1
  unfold Region.wanted
  simp only [wantA, insOf] at hb
  cases hgd : o.guard with
  | none => simp only [hgd, Option.some.injEq] at hb; simpa using hb
  | some p =>
    obtain ⟨q, want⟩ := p
    simp only [hgd] at hb ⊢
    obtain ⟨hqj, og, dg, hog, hdg⟩ := hk.grd j q want o hj hgd
    obtain ⟨ins, v, hins, hv, hLv, _⟩ := hT.val (j := q) (by rw [hlen]; omega)
    have hV := hi.val q dg og v (hg q want hgd) hog hdg hv
    have hdN := hk.low q dg og hog hdg
    have hget : (st j).L.getD q .undef = v := by rw [List.getD_eq_getElem?_getD, hLv j hqj (by rw [hlen]; omega)]; rfl
    rw [hget] at hb
    have hy : yielded ops.toArray a.tmps q = match a.tmps.getD dg undef with | .bool t => some t | _ => none := by
      unfold yielded
      have h1 : ((ops.toArray[q]?).bind (·.dst)) = some dg := by simp [hog, hdg]
      have h2 : a.tmps[dg]? = some (a.tmps.getD dg undef) := by
        rw [Array.getD_eq_getD_getElem?, Array.getElem?_eq_getElem (by rw [hi.size]; exact hdN)]; rfl
      rw [h1, Option.bind_some, h2]
      cases a.tmps.getD dg undef <;> rfl
    rw [hy]
    generalize a.tmps.getD dg undef = cv at hV
    cases v with
    | bool t =>
      simp only [Option.some.injEq] at hb; subst hb
      rw [hV.bool_inv]
      cases t <;> cases want <;> rfl
    | tup vs =>
      simp only [Option.some.injEq] at hb; subst hb
      obtain ⟨cvs, rfl, _⟩ := hV.tup_inv
      rfl
    | _ => cases hb

end

end Go.Proofs.YtaajlbbooneiiaaDoor.Avm
set_option linter.unusedVariables false
set_option linter.unusedSimpArgs false
set_option linter.unusedSectionVars false
namespace Go.Proofs.YtaajlbbooneiiaaDoor.Avm
open Go.RowKit

section
variable {P : Program} {w0 w : World} {φ : Pc} {gl al : List Nat} {N : Nat} {ops : List Oper} {g : Frame} {S : Store} {st : Nat → St} {cf : CallF} {Lst : Nat → Prop} {a : Act} {Q : Exit → Act → World → Prop}

theorem ops_arr (j : Nat) : ops.toArray[j]? = ops[j]? := by simp

theorem step_op (hcf : CallOK P w0 cf) (hT : Tr cf g S (compOps P gl al [] ops) st) (hk : Okay N ops) (hi : RInv w0 gl N ops g st Lst φ a) {Sc Sn : Store} (hr : Rel w0 φ Sc w) {j : Nat} {o : Oper} (hj : ops[j]? = some o) (hn : ¬ Lst j)
    (h1 : ∀ (t i : Nat) (o' : Oper), .tmp t ∈ o.op.operands → i < j → ops[i]? = some o' → o'.dst = some t → Lst i) (h2 : ∀ (t i : Nat) (o' : Oper), .tmp t ∈ o.op.operands → j ≤ i → ops[i]? = some o' → o'.dst = some t → ¬ Lst i)
    (hg : ∀ q b, o.guard = some (q, b) → Lst q)
    (hcur : ∀ v, wantA (insOf P gl al ((ops.take j).map (·.dst)) o) (st j).L = some true → (st (j + 1)).L = (st j).L ++ [v] → aop cf (st j).S (ev (st j).g (st j).L) (insOf P gl al ((ops.take j).map (·.dst)) o).op = some (v, (st (j + 1)).S) →
      aop cf Sc (ev (st j).g (st j).L) (insOf P gl al ((ops.take j).map (·.dst)) o).op = some (v, Sn))
    (hskip : wantA (insOf P gl al ((ops.take j).map (·.dst)) o) (st j).L = some false → (st (j + 1)).S = (st j).S → Sn = Sc)
    {K : Act → World → Prop} (hK : ∀ φ' a' w', Ext φ φ' → Rel w0 φ' Sn w' → RInv w0 gl N ops g st (fun i => Lst i ∨ i = j) φ' a' → K a' w') :
    wpOp P ops.toArray Q j K a w := by
  classical
  have hlen := compOps_len P gl al ops []
  have hjl : j < ops.length := (List.getElem?_eq_some_iff.1 hj).1
  have hins := compOps_get P gl al ops [] j o hj
  rw [List.nil_append] at hins
  obtain ⟨i', v, hi', hv, hLv, _, hcase⟩ := hT.val (j := j) (by rw [hlen]; omega)
  rw [hins] at hi'; cases hi'
  unfold wpOp
  simp only [ops_arr, hj]
  rcases hcase with ⟨hw, ha⟩ | ⟨hw, hvu, hS⟩
  · rw [wanted_V hT hk hi hj hg hw]
    simp only [if_true]
    refine .inl ?_
    have ha' := hcur v hw hv ha
    simp only [insOf] at ha'
    cases hc : compOp P (opd gl ((ops.take j).map (·.dst))) o.op with
    | none =>
      rw [hc] at ha'
      simp only [opOf, Option.getD_none, frz, frzN] at ha'
      repeat' split at ha'
      all_goals simp [aop] at ha'
    | some ao =>
      rw [hc] at ha'
      simp only [Option.getD_some] at ha'
      have hc' : compOp P (fun x => if x ∈ o.op.operands then opd gl ((ops.take j).map (·.dst)) x else none) o.op = some ao :=
        (compOp_congr fun x hx => if_pos hx).trans hc
      unfold Oper.wp
      refine Does.upon (frz_ok (ρ := a.eval) hr (fun x ax hx => ?_) (fun f => rfl) hcf hc' ha') fun φ' cv w' hx hr' hV => hK φ' _ w' hx hr' (hi.put hk hj hn hx hv hV)
      split at hx
      · rename_i hm
        exact opd_V hT hk hi hj hx (fun t i o' e => h1 t i o' (e ▸ hm)) (fun t i o' e => h2 t i o' (e ▸ hm))
      · cases hx
  · rw [wanted_V hT hk hi hj hg hw]
    simp only [Bool.false_eq_true, if_false]
    have := hskip hw hS; subst this
    subst hvu
    exact hK φ _ w (.refl _) hr (hi.put hk hj hn (.refl _) hv .undef)

/-- all done -/
theorem RInv.done (hT : Tr cf g S (compOps P gl al [] ops) st) (hk : Okay N ops) (hi : RInv w0 gl N ops g st Lst φ a) (hall : ∀ i, i < ops.length → Lst i) : FRel w0 φ gl N (st ops.length).g a := by
  have hlen := compOps_len P gl al ops []
  refine ⟨hi.size, hi.defers, fun t ht => ?_⟩
  by_cases hex : ∃ (i : Nat) (o' : Oper), ops[i]? = some o' ∧ o'.dst = some t
  · obtain ⟨i, o', ho', hd⟩ := hex
    have hil := (List.getElem?_eq_some_iff.1 ho').1
    obtain ⟨ins, v, hins, hv, _⟩ := hT.val (j := i) (by rw [hlen]; omega)
    have hget := compOps_get P gl al ops [] i o' ho'
    have hdst : (insOf P gl al ([] ++ (ops.take i).map (·.dst)) o').dst = some t := by simp only [insOf, dstOf, hd]; simp [ht]
    rw [hT.slot_new hget hdst hv ops.length hil (by rw [hlen]; omega) fun k q hik hkj hq hqd => ?_]
    · exact hi.val i t o' v (hall i hil) ho' hd hv
    · have hok : ops[k]? = some ops[k] := List.getElem?_eq_getElem (show k < ops.length by omega)
      have hgk := compOps_get P gl al ops [] k _ hok
      rw [hgk] at hq; cases hq
      have : (ops[k]'(by omega)).dst = some t := by
        simp only [insOf, dstOf] at hqd
        split at hqd
        · rename_i d hd'
          split at hqd
          · cases hqd; exact hd'
          · cases hqd
        · cases hqd
      have := hk.uniq i k t o' _ ho' hok hd this
      omega
  · rw [hT.slot_old ops.length (by rw [hlen]; omega) fun i q hij hq hqd => ?_]
    · exact hi.slot t ht fun i o' hl ho' hd => hex ⟨i, o', ho', hd⟩
    · have hok : ops[i]? = some ops[i] := List.getElem?_eq_getElem (show i < ops.length by omega)
      have hgk := compOps_get P gl al ops [] i _ hok
      rw [hgk] at hq; cases hq
      refine hex ⟨i, _, hok, ?_⟩
      simp only [insOf, dstOf] at hqd
      split at hqd
      · rename_i d hd'
        split at hqd
        · cases hqd; exact hd'
        · cases hqd
      · cases hqd

theorem RInv.start (ha : FRel w0 φ gl N g a) : RInv w0 gl N ops g st (fun _ => False) φ a :=
  ⟨ha.size, ha.defers, fun _ _ _ _ h => h.elim, fun t ht _ => ha.slot t ht⟩

/-- in the text's order -/
theorem region_list (hcf : CallOK P w0 cf) (hT : Tr cf g S (compOps P gl al [] ops) st) (hk : Okay N ops)
    (hQ : ∀ φ' a' w', Ext φ φ' → Rel w0 φ' (st ops.length).S w' → FRel w0 φ' gl N (st ops.length).g a' → Q .normal a' w') :
    ∀ (m k : Nat) (φ' : Pc) (a : Act) (w : World), k + m = ops.length → Ext φ φ' → RInv w0 gl N ops g st (fun i => i < k) φ' a → Rel w0 φ' (st k).S w → wpList P ops.toArray Q (ops.drop k) a w := by
  intro m
  induction m with
  | zero =>
    intro k φ' a w hkm hx hi hr
    have : k = ops.length := by omega
    subst this
    rw [List.drop_length]
    exact hQ φ' a w hx hr (hi.done hT hk fun i h => h)
  | succ m ih =>
    intro k φ' a w hkm hx hi hr
    have hkl : k < ops.length := by omega
    have hj : ops[k]? = some ops[k] := List.getElem?_eq_getElem hkl
    rw [List.drop_eq_getElem_cons hkl]
    have hstep := step_op (Q := Q) hcf hT hk hi hr (Sn := (st (k + 1)).S) hj (by omega) (fun t i o' _ hi' _ _ => hi') (fun t i o' _ hi' _ _ => by omega) (fun q b hg => (hk.grd k q b _ hj hg).1)
      (fun v _ _ h => h) (fun _ h => h) (K := wpList P ops.toArray Q (ops.drop (k + 1))) fun φ'' a' w' hx' hr' hi' => by
        have : (fun i => i < k ∨ i = k) = fun i => i < k + 1 := funext fun i => propext (by omega)
        rw [this] at hi'
        exact ih (k + 1) φ'' a' w' (by omega) (hx.trans hx') hi' hr'
    unfold wpOp at hstep
    simp only [ops_arr, hj] at hstep
    exact hstep

end
end Go.Proofs.YtaajlbbooneiiaaDoor.Avm
