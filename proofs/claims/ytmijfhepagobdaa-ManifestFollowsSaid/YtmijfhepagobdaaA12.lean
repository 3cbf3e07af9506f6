/- Rows that grow, rows wiped. -/
import Derived.Test.YtmijfhepagobdaaA11
import Derived.Room.Entries
set_option linter.unusedVariables false
set_option linter.unusedSimpArgs false
set_option linter.unusedSectionVars false
namespace Go.Proofs.Ytmijfhepagobdaa.Avm
open Go.RowKit

section
variable {P : Program} {w0 w : World} {φ : Pc} {S S' : Store} {ev : AX → AV} {ρ : Operand → Value} {tr : Operand → Option AX} {cf : CallF} {o : Oper} {v : AV}

/-- what is appended -/
theorem first_cells (hr : Rel w0 φ S w) {sz : Nat} (hs : 0 < sz) {y : AV} {cy : Value} {ys : List AV} {m : Nat} (hy : V w0 φ y cy) (h : elems S sz y = some (ys, m)) :
    ∃ cvs : List Value, Vc w0 φ ys cvs ∧ cvs.length = m * sz ∧ (Builtin.lenOf cy).run P w = .ok m w ∧ ∀ w' : World, w'.heap = w.heap → (Builtin.firstCells sz m cy).run P w' = .ok cvs.toArray w' := by
  by_cases hstr : ∃ s, y = .str s
  · obtain ⟨s, rfl⟩ := hstr
    have := hy.str_inv; subst this
    simp only [elems] at h
    split at h
    · rename_i h1; cases h; subst h1
      refine ⟨_, bytes_V s, by simp, by simp [Builtin.lenOf]; rfl, fun w' _ => ?_⟩
      simp only [Builtin.firstCells, Sem.run_pure]
      congr 1
      have : ((⟨s.toArray⟩ : ByteArray).extract 0 s.length).data = s.toArray := by
        rw [ByteArray.data_extract]; simp [List.extract_eq_drop_take']
      rw [this]; simp
    · cases h
  · rcases elems_slice hr hy (fun s e => hstr ⟨s, e⟩) h with ⟨rfl, rfl, e⟩ | ⟨a, c, cvs, e, hl, hv, hn, hc⟩
    · exact ⟨[], .nil, by simp, by simp [Builtin.lenOf, e], fun w' _ => by simp [Builtin.firstCells, e]⟩
    · refine ⟨cvs, hv, hl, by simp [Builtin.lenOf, e], fun w' hw => ?_⟩
      have := run_loadCells_list (P := P) w' a cvs (fun j u hu => by
        have := hc j u hu
        simpa [World.cell?, hw] using this)
      rw [hl] at this
      simp only [Builtin.firstCells, e, this]

/-- append, with room -/
theorem append_room {t ty e : TypeId} {i : TypeInfo} {u : TypeId} {d : TypeDesc} (ht : P.underlying t = some (.slice e)) (hd : P.underlying u = some d) (hz : ∀ k, d ≠ .int k) (hi : P.info? e = some i)
    {base : Option Addr} {n c m : Nat} {y : Value} {cvs : List Value} (hlen : (Builtin.lenOf y).run P w = .ok m w) (hf : (Builtin.firstCells i.size m y).run P w = .ok cvs.toArray w) (hroom : n + m ≤ c)
    {w' : World} (hst : ∀ a, base = some a → (storeCells (a.add (n * i.size)) cvs).run P w = .ok () w') (hn : base = none → w' = w) :
    (Builtin.append_ #[t, u] ty #[.slice base n c, y]).run P w = .ok (.slice base (n + m) c) w' := by
  have hno : (match d with | .int _ => true | _ => false : Bool) = false := by cases d <;> first | rfl | exact absurd rfl (hz _)
  cases base with
  | none => rw [hn rfl]; simp [Builtin.append_, run_underlying ht, run_underlying hd, sizeOf, typeInfo, hi, hlen, hroom, hf, hno]
  | some a => simp [Builtin.append_, run_underlying ht, run_underlying hd, sizeOf, typeInfo, hi, hlen, hroom, hf, hno, hst a rfl]

/-- append, without -/
theorem append_grow {t ty e : TypeId} {i : TypeInfo} {z : Value} {u : TypeId} {d : TypeDesc} (ht : P.underlying t = some (.slice e)) (hd : P.underlying u = some d) (hz : ∀ k, d ≠ .int k) (hi : P.info? e = some i) (hzv : i.zero = some z)
    {base : Option Addr} {n c m : Nat} {y : Value} {olds cvs : List Value} (hlen : (Builtin.lenOf y).run P w = .ok m w) (hf : (Builtin.firstCells i.size m y).run P w.drew = .ok cvs.toArray w.drew)
    (ho : (Builtin.firstCells i.size n (.slice base n c)).run P w.drew = .ok olds.toArray w.drew) (hroom : c < n + m) (hb : (n + m) * i.bytes ≤ 140737488355328) (hpos : 0 < i.bytes) :
    (Builtin.append_ #[t, u] ty #[.slice base n c, y]).run P w = .ok (.slice (some ⟨w.heap.size, 0, none⟩) (n + m) (grownCap w (n + m) c e))
      (w.drew.alloc (.cells (olds ++ cvs ++ (Builtin.zeroCells z.cells (grownCap w (n + m) c e - (n + m))).toList).toArray e)) := by
  have hno : (match d with | .int _ => true | _ => false : Bool) = false := by cases d <;> first | rfl | exact absurd rfl (hz _)
  have h1 : ¬ (n + m ≤ c) := by omega
  have h2 : ¬ (281474976710656 < Builtin.nextslicecap (n + m) c * i.bytes) := by have := growslice_fits hroom hb; omega
  have h3 : ¬ (i.bytes = 0) := by omega
  simp [Builtin.append_, run_underlying ht, run_underlying hd, sizeOf, typeInfo, zeroValue, hi, hzv, hlen, h1, hno, h2, h3, Question.forced, run_askRoom, ho, hf, newRow, grownCap]
  congr 2
  apply Array.ext'
  simp

/-- cells written past what is known: the row goes on under another name -/
theorem Rel.moved (h : Rel w0 φ S w) {id : Nat} {p : Pl} (hp : φ.pl[id]? = some p) {cs : List AV} (hS : S[id]? = some (.cells cs)) {off : Nat} {k : Nat} {ys : List AV} {cvs : List Value} (hv : Vc w0 φ ys cvs) (hk : off + k = cs.length)
    (hcap : p.o + off + k + ys.length ≤ p.cap) :
    Rel w0 (φ.snoc ⟨p.b, p.o + off, p.cap, (cs.drop off ++ ys).length⟩) (S.set id .dead ++ [.cells (cs.drop off ++ ys)]) (w.setCells p.b (p.o + off + k) cvs) ∧
    (∀ j, j < cvs.length → (w.cell? ⟨p.b, p.o + off + k + j, none⟩).isSome = true) ∧ (∀ j, j < cvs.length → w.frozen? ⟨p.b, p.o + off + k + j, none⟩ = false) := by
  obtain ⟨h1, h2, ccs, e, fr, h3, h4, h5, h6, h7⟩ := h.obj _ _ _ hp hS
  have hl := hv.1.1
  have hheap := setCells_heap p.b cvs (p.o + off + k) w ccs e fr h3 (by omega)
  refine ⟨(h.set hp hS trivial (setCells_grown _ _ _ _) (x' := .dead) trivial).push (fun i q y hq hy ly => ?_) (fun a cv ha => h.fzb a cv id p _ ha hp hS trivial) ?_, fun j hj => ?_, fun j hj => ?_⟩
  · intro hb
    by_cases hi : id = i
    · subst hi
      rw [List.getElem?_set] at hy; simp at hy; obtain ⟨_, rfl⟩ := hy; exact ly
    · rw [List.getElem?_set_ne hi] at hy
      exact hi (h.inj i id q p y _ hq hp hy hS ly trivial hb).symm
  · refine ⟨rfl, h2, _, e, fr, hheap, ?_, ?_, ?_, fun j v hj => ?_⟩
    · simp only [List.size_toArray, List.length_append, List.length_take, List.length_drop, Array.length_toList]; omega
    · refine h5.imp (fun x => x) fun h5 => ?_
      simp only [List.size_toArray, List.length_append, List.length_take, List.length_drop, Array.length_toList]; omega
    · simp only [List.size_toArray, List.length_append, List.length_take, List.length_drop, Array.length_toList]; omega
    · simp only [List.getElem?_toArray, List.append_assoc]
      by_cases a : j < k
      · rw [List.getElem?_append_left (by simp; omega), List.getElem?_drop] at hj
        obtain ⟨cv, c1, c2, c3⟩ := h7 _ v hj
        refine ⟨cv, ?_, c2, c3⟩
        rw [List.getElem?_append_left (by simp; omega), List.getElem?_take, if_pos (by omega)]
        rw [Array.getElem?_toList, ← c1, Nat.add_assoc]
      · rw [List.getElem?_append_right (by simp; omega)] at hj
        obtain ⟨cv, c1, c2⟩ := hv.1.get hj
        refine ⟨cv, ?_, c2, hv.2 cv (List.mem_of_getElem? c1)⟩
        have := (List.getElem?_eq_some_iff.1 c1).1
        rw [List.getElem?_append_right (by simp; omega), List.getElem?_append_left (by simp at this ⊢; omega)]
        rw [← c1]; congr 1; simp; omega
  · simp only [World.cell?, h3]; simp; omega
  · simp only [World.frozen?, h3]
    rcases h5 with h5 | h5
    · subst h5; simp
    · simp; omega

variable (hr : Rel w0 φ S w) (hρ : ∀ x ax, tr x = some ax → V w0 φ (ev ax) (ρ x))
include hr hρ

theorem ok_append {c : Call} {x y : Operand} {t u e : TypeId} {d : TypeDesc} {i : TypeInfo} {ax ay : AX} (ho : o.op = .call c) (hcl : c.callee = .builtin .append) (hcx : c.args.toList = [x, y]) (ht : c.argTypes.toList = [t, u])
    (hu : P.underlying t = some (.slice e)) (hd : P.underlying u = some d) (hz : ∀ k, d ≠ .int k) (hi : P.info? e = some i) (hpos : 0 < i.size ∧ 0 < i.bytes) {z : List AV} (hzc : zeroCells P e = some z) (hzl : z.length = i.size)
    (hx : tr x = some ax) (hy : tr y = some ay) (ha : aop cf S ev (.append i.size i.bytes ax ay) = some (v, S')) : Gives w0 φ S' v ((execOp ρ o).run P w) := by
  have kx := hρ _ _ hx
  have ky := hρ _ _ hy
  have hat : c.argTypes = #[t, u] := by have := congrArg List.toArray ht; simpa using this
  obtain ⟨cs0, hcs⟩ := call_builtin (P := P) hr hρ ho hcl (vs := [ρ x, ρ y]) (by rw [hcx]; rfl)
  have run : ∀ r w', (Builtin.append_ #[t, u] o.type #[ρ x, ρ y]).run P w = .ok r w' → (execOp ρ o).run P w = .ok (.value r) w' := fun r w' hr' => by
    rw [hcs, hat]; simp [builtin, hr']
  obtain ⟨i', zv, hi', hzv, hzV⟩ := zero_info (w0 := w0) (φ := φ) hzc
  rw [hi] at hi'; cases hi'
  simp only [aop, Option.bind_eq_some_iff] at ha
  obtain ⟨⟨ys, m⟩, hel, ha⟩ := ha
  dsimp only at ha
  obtain ⟨cvs, hv, hl, hlen, hf⟩ := first_cells (P := P) hr hpos.1 ky hel
  have hyl := hv.1.1
  -- a new row
  have fresh : ∀ {S1 : Store} (base : Option Addr) (n cc : Nat) (os : List AV) (olds : List Value), Rel w0 φ S1 w → Vc w0 φ os olds → ρ x = .slice base n cc → olds.length = n * i.size → (Builtin.firstCells i.size n (.slice base n cc)).run P w.drew = .ok olds.toArray w.drew → cc < n + m → (n + m) * i.bytes ≤ 140737488355328 →
      Gives w0 φ (S1 ++ [.cells (os ++ ys)]) (.sl S1.length 0 (n + m) i.size) ((execOp ρ o).run P w) := fun {S1} base n cc os olds hr1 hov e' hol hfo hroom hb => by
    have hrun := append_grow (P := P) (ty := o.type) hu hd hz hi hzv hlen (hf w.drew rfl) hfo hroom hb hpos.2
    have hge := grownCap_ge w (n + m) cc e
    generalize grownCap w (n + m) cc e = g at hrun hge
    have hal := (hr1.grown (drew_grown w)).alloc (hov.append hv) e 0 (Builtin.zeroCells zv.cells (g - (n + m))).toList
    refine ⟨_, _, _, .inl (run _ _ (by rw [e']; exact hrun)), .snoc _ _, hal, ?_⟩
    have e1 : (n + m) * i.size = n * i.size + m * i.size := Nat.add_mul ..
    have e2 : (olds ++ cvs).length = (n + m) * i.size := by rw [List.length_append, hol, hl, e1]
    have e3 : (os ++ ys).length = (n + m) * i.size := by rw [← e2]; exact (hov.append hv).1.1
    have e4 : (n + m) * i.size ≤ g * i.size := Nat.mul_le_mul_right _ hge
    refine V.sl (last_place hr1 _) (fun _ => rfl) ?_ ?_ hge hpos.1 (by simp only [e3]; omega)
    · simp only [e3]; omega
    · simp only [e2]
      have : (Builtin.zeroCells zv.cells (g - (n + m))).toList.length = (g - (n + m)) * zv.cells.size := by rw [Array.length_toList, size_zeroCells]
      rw [this]
      have hzsize : zv.cells.size = i.size := by have := hzV.1.1; simp at this; omega
      rw [hzsize, ← Nat.add_mul]
      have : n + m + (g - (n + m)) = g := by omega
      rw [this]; omega
  split at ha
  · rename_i he
    rw [he] at kx; have e' := kx.nilS_inv
    split at ha
    · rename_i hm; cases ha
      have := append_room (P := P) (ty := o.type) (base := none) (n := 0) (c := 0) hu hd hz hi hlen (hf w rfl) (by omega) (w' := w) (by simp) (fun _ => rfl)
      exact gives_value hr (run _ _ (by rw [e']; exact this)) (by have hm : m = 0 := hm; subst hm; exact .nilS)
    · rename_i hm
      split at ha
      · rename_i hb; cases ha
        have := fresh none 0 0 [] [] hr .nil e' (by simp) (by simp [Builtin.firstCells]) (by omega) (by simpa using hb)
        simpa using this
      · cases ha
  · rename_i he
    rw [he] at kx; obtain ⟨b', e'⟩ := kx.emp_inv
    split at ha
    · rename_i hm; cases ha
      have hm : m = 0 := hm
      subst hm
      have hcv : cvs = [] := List.eq_nil_of_length_eq_zero (by rw [hl, Nat.zero_mul])
      have := append_room (P := P) (ty := o.type) (base := b') (n := 0) (c := 0) hu hd hz hi hlen (hf w rfl) (by omega) (w' := w) (fun a _ => by subst hcv; rfl) (fun _ => rfl)
      exact gives_value hr (run _ _ (by rw [e']; exact this)) .emp
    · rename_i hm
      split at ha
      · rename_i hb; cases ha
        have := fresh b' 0 0 [] [] hr .nil e' (by simp) (by cases b' with | none => simp [Builtin.firstCells] | some a => simpa [Builtin.firstCells] using run_loadCells_list (P := P) w.drew a [] (by simp)) (by omega) (by simpa using hb)
        simpa using this
      · cases ha
  · rename_i cs n he
    split at ha
    · rename_i hm; cases ha
      have hm : m = 0 := hm
      subst hm
      have hcv : cvs = [] := List.eq_nil_of_length_eq_zero (by rw [hl, Nat.zero_mul])
      rw [he] at kx
      have kx' := kx
      obtain ⟨a, c', cvs', e', _, hn, _⟩ | ⟨rfl, rfl, e'⟩ := kx.csl_inv
      · have := append_room (P := P) (ty := o.type) (base := some a) (n := n) (c := c') hu hd hz hi hlen (hf w rfl) (by omega) (w' := w) (fun a _ => by subst hcv; rfl) (fun _ => rfl)
        rw [e'] at kx'
        exact gives_value hr (run _ _ (by rw [e']; exact this)) kx'
      · have := append_room (P := P) (ty := o.type) (base := none) (n := 0) (c := 0) hu hd hz hi hlen (hf w rfl) (by omega) (w' := w) (by simp) (fun _ => rfl)
        exact gives_value hr (run _ _ (by rw [e']; exact this)) .csl0
    · cases ha
  · rename_i he
    split at ha
    · rename_i hm; cases ha
      have hm : m = 0 := hm
      subst hm
      have hcv : cvs = [] := List.eq_nil_of_length_eq_zero (by rw [hl, Nat.zero_mul])
      rw [he] at kx
      obtain ⟨a, c', e'⟩ := kx.nsl_inv
      have := append_room (P := P) (ty := o.type) (base := some a) (n := 0) (c := c') hu hd hz hi hlen (hf w rfl) (by omega) (w' := w) (fun a _ => by subst hcv; rfl) (fun _ => rfl)
      exact gives_value hr (run _ _ (by rw [e']; exact this)) .nsl
    · cases ha
  · rename_i id off n sz' he
    split at ha
    · rename_i cs hS
      split at ha
      · rename_i hsz; subst hsz
        rw [he] at kx
        obtain ⟨a, cc, p, e', hp, hA, htot, hcap, hn, _, hkn⟩ := kx.sl_inv
        obtain ⟨h1, h2, ccs, el, fr, h3, h4, h5, h6, h7⟩ := hr.obj _ _ _ hp hS
        have e1 : (n + m) * i.size = n * i.size + m * i.size := Nat.add_mul ..
        split at ha
        · rename_i hin; cases ha
          have hroom : n + m ≤ cc := by
            have : (n + m) * i.size ≤ cc * i.size := by omega
            exact Nat.le_of_mul_le_mul_right this hpos.1
          obtain ⟨w1, w2, w3⟩ := hr.write hp hS (off + n * i.size) hv (by omega)
          have hst := run_storeCells_cells (P := P) p.b (p.o + (off + n * i.size)) cvs 0 w w2 w3 hv.2
          rw [hyl, hl] at w1
          have hrun := append_room (P := P) (ty := o.type) (base := some a) (n := n) (c := cc) hu hd hz hi hlen (hf w rfl) hroom (w' := w.setCells p.b (p.o + (off + n * i.size)) cvs) (fun a' ea => by
            cases ea
            by_cases hm : m = 0
            · have : cvs = [] := List.eq_nil_of_length_eq_zero (by rw [hl, hm, Nat.zero_mul])
              subst this; rfl
            · rw [hA (by omega), add_none, Nat.add_assoc]; simpa using hst) (by simp)
          refine ⟨φ, _, _, .inl (run _ _ (by rw [e']; exact hrun)), .refl _, ?_, ?_⟩
          · rw [show off + (n + m) * i.size = off + n * i.size + m * i.size by omega]; exact w1
          · exact V.sl hp hA htot hcap hroom hpos.1 (by omega)
        · split at ha
          · rename_i hfr; cases ha
            obtain ⟨hfr, hb⟩ := hfr
            by_cases hroom : n + m ≤ cc
            · have hle : (n + m) * i.size ≤ cc * i.size := Nat.mul_le_mul_right _ hroom
              obtain ⟨w1, w2, w3⟩ := hr.moved hp hS hv hfr (by omega)
              have hst := run_storeCells_cells (P := P) p.b (p.o + off + n * i.size) cvs 0 w w2 w3 hv.2
              have hm : 0 < m := by
                rcases Nat.eq_zero_or_pos m with h0 | h0
                · subst h0; simp at *; omega
                · exact h0
              have hrun := append_room (P := P) (ty := o.type) (base := some a) (n := n) (c := cc) hu hd hz hi hlen (hf w rfl) hroom (w' := w.setCells p.b (p.o + off + n * i.size) cvs) (fun a' ea => by
                cases ea
                rw [hA (by omega), add_none]; simpa using hst) (by simp)
              refine ⟨_, _, _, .inl (run _ _ (by rw [e']; exact hrun)), .snoc _ _, w1, ?_⟩
              have hdl : (cs.drop off ++ ys).length = (n + m) * i.size := by simp only [List.length_append, List.length_drop]; omega
              refine V.sl (p := ⟨p.b, p.o + off, p.cap, (cs.drop off ++ ys).length⟩) (last_place hr _) (fun _ => by rw [hA (by omega)]; rfl) ?_ ?_ hroom hpos.1 (by simp only [hdl]; omega)
              · simp only [hdl]; omega
              · simp only; omega
            · have hkill := hr.kill id
              obtain ⟨olds, q1, q2, q3⟩ := hr.cells hp hS off (n * i.size) (by omega)
              have hdt : (cs.drop off).take (n * i.size) = cs.drop off := List.take_of_length_le (by simp; omega)
              rw [hdt] at q1
              have hfo : (Builtin.firstCells i.size n (.slice (some a) n cc)).run P w.drew = .ok olds.toArray w.drew := by
                have := run_loadCells_list (P := P) w.drew a olds (fun j u hu => by
                  have h0 : 0 < cc := by
                    rcases Nat.eq_zero_or_pos n with h0 | h0
                    · have h0' : olds = [] := List.eq_nil_of_length_eq_zero (by rw [q2, h0, Nat.zero_mul])
                      subst h0'; simp at hu
                    · omega
                  rw [hA h0, add_none]; exact q3 j u hu)
                rw [q2] at this
                simpa [Builtin.firstCells] using this
              have := fresh (some a) n cc _ olds hkill q1 e' q2 hfo (by omega) hb
              simpa using this
          · cases ha
      · cases ha
    · cases ha
  · rename_i id off n c sz' he
    split at ha
    · rename_i cs hS
      split at ha
      · rename_i hsz; obtain ⟨rfl, hcl2⟩ := hsz
        rw [he] at kx
        obtain ⟨a, p, e', hp, hA, hk, hn, _⟩ := kx.slc_inv
        obtain ⟨h1, h2, ccs, el, fr, h3, h4, h5, h6, h7⟩ := hr.obj _ _ _ hp hS
        have e1 : (n + m) * i.size = n * i.size + m * i.size := Nat.add_mul ..
        split at ha
        · rename_i hroom; cases ha
          have hle : (n + m) * i.size ≤ c * i.size := Nat.mul_le_mul_right _ hroom
          obtain ⟨w1, w2, w3⟩ := hr.write hp hS (off + n * i.size) hv (by omega)
          have hst := run_storeCells_cells (P := P) p.b (p.o + (off + n * i.size)) cvs 0 w w2 w3 hv.2
          rw [hyl, hl] at w1
          have hrun := append_room (P := P) (ty := o.type) (base := some a) (n := n) (c := c) hu hd hz hi hlen (hf w rfl) hroom (w' := w.setCells p.b (p.o + (off + n * i.size)) cvs) (fun a' ea => by
            cases ea
            by_cases hm : m = 0
            · have : cvs = [] := List.eq_nil_of_length_eq_zero (by rw [hl, hm, Nat.zero_mul])
              subst this; rfl
            · rw [hA (by omega), add_none, Nat.add_assoc]; simpa using hst) (by simp)
          refine ⟨φ, _, _, .inl (run _ _ (by rw [e']; exact hrun)), .refl _, ?_, ?_⟩
          · rw [show off + (n + m) * i.size = off + n * i.size + m * i.size by omega]; exact w1
          · exact V.slc hp hA hk hroom hpos.1
        · rename_i hroom
          split at ha
          · rename_i hb; cases ha
            have hle : n * i.size ≤ c * i.size := Nat.mul_le_mul_right _ hn
            obtain ⟨olds, q1, q2, q3⟩ := hr.cells hp hS off (n * i.size) (by omega)
            have hfo : (Builtin.firstCells i.size n (.slice (some a) n c)).run P w.drew = .ok olds.toArray w.drew := by
              have := run_loadCells_list (P := P) w.drew a olds (fun j u hu => by
                have h0 : 0 < c := by
                  rcases Nat.eq_zero_or_pos n with h0 | h0
                  · have h0' : olds = [] := List.eq_nil_of_length_eq_zero (by rw [q2, h0, Nat.zero_mul])
                    subst h0'; simp at hu
                  · omega
                rw [hA h0, add_none]; exact q3 j u hu)
              rw [q2] at this
              simpa [Builtin.firstCells] using this
            exact fresh (some a) n c _ olds hr q1 e' q2 hfo (by omega) hb
          · cases ha
      · cases ha
    · cases ha
  · cases ha


theorem ok_clear {c : Call} {x : Operand} {t e : TypeId} {ax : AX} {sz : Nat} {z : List AV} (ho : o.op = .call c) (hcl : c.callee = .builtin .clear) (hcx : c.args.toList = [x]) (ht : c.argTypes.toList = [t])
    (hu : P.underlying t = some (.slice e)) (hzc : zeroCells P e = some z) (hsz : szOf P e = some sz) (hzl : z.length = sz)
    (hx : tr x = some ax) (ha : aop cf S ev (.clear sz z ax) = some (v, S')) : Gives w0 φ S' v ((execOp ρ o).run P w) := by
  have kx := hρ _ _ hx
  have hat : c.argTypes = #[t] := by have := congrArg List.toArray ht; simpa using this
  obtain ⟨cs0, hcs⟩ := call_builtin (P := P) hr hρ ho hcl (vs := [ρ x]) (by rw [hcx]; rfl)
  have run : ∀ r w', (Builtin.clear_ #[t] o.type #[ρ x]).run P w = .ok r w' → (execOp ρ o).run P w = .ok (.value r) w' := fun r w' hr' => by
    rw [hcs, hat]; simp [builtin, hr']
  have nothing : ∀ b c', ρ x = .slice b 0 c' → v = .undef → S' = S → Gives w0 φ S' v ((execOp ρ o).run P w) := fun b c' e' h1 h2 => by
    subst h1; subst h2
    exact gives_value hr (run (.tuple #[]) w (by rw [e']; cases b <;> simp [Builtin.clear_, run_underlying hu])) .undef
  simp only [aop] at ha
  split at ha
  · rename_i he; rw [he] at kx; cases ha
    exact nothing _ _ kx.nilS_inv rfl rfl
  · rename_i he; rw [he] at kx; cases ha
    obtain ⟨b, e'⟩ := kx.emp_inv; exact nothing _ _ e' rfl rfl
  · rename_i he; rw [he] at kx; cases ha
    obtain ⟨b, c', e'⟩ := kx.nsl_inv; exact nothing _ _ e' rfl rfl
  · rename_i cs n he; rw [he] at kx
    split at ha
    · rename_i hn; subst hn; cases ha
      obtain ⟨a, c', cvs, e', _⟩ | ⟨_, _, e'⟩ := kx.csl_inv
      · exact nothing _ _ e' rfl rfl
      · exact nothing _ _ e' rfl rfl
    · cases ha
  · rename_i id off n sz' he
    rw [he] at kx
    split at ha
    · rename_i cs hS
      split at ha
      · rename_i hb; obtain ⟨rfl, hzl', hbd⟩ := hb
        cases ha
        obtain ⟨a, cc, p, e', hp, hA, _, _, hn, hpos, _⟩ := kx.sl_inv
        obtain ⟨zv, hzr, hzc'⟩ := run_zero (P := P) (w := w) hzc
        have hzV := constSs_V (w0 := w0) (φ := φ) hzc'
        have hrep := rep_V hzV n
        rcases Nat.eq_zero_or_pos n with h0 | h0
        · subst h0
          have hh : S.set id (.cells (cs.take off ++ (List.replicate 0 z).flatten ++ cs.drop (off + 0 * sz))) = S := by
            simp only [List.replicate_zero, List.flatten_nil, List.append_nil, Nat.zero_mul, Nat.add_zero, List.take_append_drop]
            apply List.ext_getElem?
            intro i
            rw [List.getElem?_set]
            split
            · rename_i hi; subst hi; rw [hS]; simp [(List.getElem?_eq_some_iff.1 hS).1]
            · rfl
          exact nothing _ _ e' rfl hh
        · have hlen : ((List.replicate n z).flatten).length = n * sz := by simp [hzl]
          have hcvl := hrep.1.1
          obtain ⟨h1, h2, h3⟩ := hr.write hp hS off hrep (by rw [hlen]; exact hbd)
          have hst := run_storeCells_cells (P := P) p.b (p.o + off) _ 0 w h2 h3 hrep.2
          simp only [Nat.add_zero] at hst
          rw [hlen] at h1
          refine ⟨φ, .tuple #[], _, .inl (run _ _ ?_), .refl _, h1, .undef⟩
          have hA := hA (by omega)
          have hzs : 0 < zv.cells.size := by have := hzV.1.1; simp at this; omega
          have hq : (Builtin.zeroCells zv.cells n).toList = (List.replicate n zv.cells.toList).flatten := made_flat zv.cells hzs n
          obtain ⟨m, rfl⟩ : ∃ m, n = m + 1 := ⟨n - 1, by omega⟩
          simp [Builtin.clear_, e', run_underlying hu, hzr, hq, hA, hst]
      · cases ha
    · cases ha
  · cases ha

end
end Go.Proofs.Ytmijfhepagobdaa.Avm
