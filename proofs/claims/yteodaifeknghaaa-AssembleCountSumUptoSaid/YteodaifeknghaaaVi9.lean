/- Building structs, arrays and slices. -/
import Derived.Test.YteodaifeknghaaaVi8
namespace Go.VI
variable {g : PG} {c : Ctx} {w : World} {fr fr' : Fr} {a : Act} {o : Oper} {callE : CallE} {yieldE : Nm → List PV → Heap → Option (PV × Heap)}

def fillFold (cells : Array Value) (off : Nat) (vs : Array Value) : Array Value := vs.zipIdx.foldl (fun cs (x : Value × Nat) => cs.setIfInBounds (off + x.2) x.1) cells

theorem fillFold_list (off : Nat) : ∀ (l : List Value) (s : Nat) (cells : Array Value),
    ((l.zipIdx s).foldl (fun cs (x : Value × Nat) => cs.setIfInBounds (off + x.2) x.1) cells).size = cells.size ∧
    ∀ k, ((l.zipIdx s).foldl (fun cs (x : Value × Nat) => cs.setIfInBounds (off + x.2) x.1) cells)[k]? = if off + s ≤ k ∧ k < off + s + l.length ∧ k < cells.size then l[k - (off + s)]? else cells[k]?
  | [], s, cells => ⟨rfl, fun k => by simp; omega⟩
  | v :: l, s, cells => by
    obtain ⟨h1, h2⟩ := fillFold_list off l (s + 1) (cells.setIfInBounds (off + s) v)
    refine ⟨by simpa using h1, fun k => ?_⟩
    simp only [List.zipIdx_cons, List.foldl_cons]
    rw [h2 k]
    simp only [Array.size_setIfInBounds, List.length_cons]
    by_cases hk : k = off + s
    · subst hk
      rw [if_neg (by omega)]
      by_cases hl : off + s < cells.size
      · rw [if_pos (by omega)]
        simp [hl]
      · rw [if_neg (by omega)]
        simp [Array.setIfInBounds, hl]
    · by_cases hc : off + (s + 1) ≤ k ∧ k < off + (s + 1) + l.length ∧ k < cells.size
      · rw [if_pos hc, if_pos (by omega)]
        obtain ⟨q, hq⟩ : ∃ q, k - (off + s) = q + 1 := ⟨k - (off + s) - 1, by omega⟩
        rw [hq, List.getElem?_cons_succ]
        congr 1
        omega
      · rw [if_neg hc, if_neg (by omega), Array.getElem?_setIfInBounds_ne (by omega)]

theorem fillFold_spec (cells : Array Value) (off : Nat) (vs : Array Value) : (fillFold cells off vs).size = cells.size ∧ ∀ k, (fillFold cells off vs)[k]? = if off ≤ k ∧ k < off + vs.size ∧ k < cells.size then vs[k - off]? else cells[k]? := by
  have h := fillFold_list off vs.toList 0 cells
  have e : fillFold cells off vs = (vs.toList.zipIdx 0).foldl (fun cs (x : Value × Nat) => cs.setIfInBounds (off + x.2) x.1) cells := by
    unfold fillFold
    rw [← Array.foldl_toList]
    simp
  rw [e]
  refine ⟨h.1, fun k => ?_⟩
  rw [h.2 k]
  simp

/-- Cells and their values, each surely one cell. -/
def GRel (c : Ctx) (w : World) (cs : List PV) (us : Array Value) : Prop := LRel c w cs us ∧ ∀ (i : Nat) x, us[i]? = some x → x.oneCell' = true

theorem GRel.splice {cs vs : List PV} {us xs : Array Value} {off : Nat} (h : GRel c w cs us) (hv : vs.length = xs.size) (hr : ∀ (j : Nat) cv x, vs[j]? = some cv → xs[j]? = some x → VRel c w cv x ∧ x.oneCell' = true) (hl : off + vs.length ≤ cs.length) :
    GRel c w (splice cs off vs) (fillFold us off xs) := by
  obtain ⟨h1, h2⟩ := fillFold_spec us off xs
  have hlen := h.1.1
  have hsl : (VI.splice cs off vs).length = cs.length := by simp [VI.splice]; omega
  have hget : ∀ i, (VI.splice cs off vs)[i]? = if off ≤ i ∧ i < off + vs.length then vs[i - off]? else cs[i]? := by
    intro i
    unfold VI.splice
    by_cases hi : i < off
    · rw [if_neg (by omega), List.append_assoc, List.getElem?_append_left (by simp; omega), List.getElem?_take, if_pos hi]
    · rw [List.append_assoc, List.getElem?_append_right (by simp; omega)]
      have : (cs.take off).length = off := by simp; omega
      rw [this]
      by_cases hi2 : i < off + vs.length
      · rw [if_pos (by omega), List.getElem?_append_left (by omega)]
      · rw [if_neg (by omega), List.getElem?_append_right (by omega), List.getElem?_drop]
        congr 1
        omega
  refine ⟨⟨by rw [hsl, h1, hlen], fun i v x hi hx => ?_⟩, fun i x hx => ?_⟩
  · rw [hget] at hi
    rw [h2] at hx
    by_cases hc : off ≤ i ∧ i < off + vs.length
    · rw [if_pos hc] at hi
      rw [if_pos (by omega)] at hx
      exact (hr _ v x hi hx).1
    · rw [if_neg hc] at hi
      rw [if_neg (by omega)] at hx
      exact h.1.2 i v x hi hx
  · rw [h2] at hx
    by_cases hc : off ≤ i ∧ i < off + xs.size ∧ i < us.size
    · rw [if_pos hc] at hx
      have hj : i - off < vs.length := by omega
      exact (hr (i - off) _ x (List.getElem?_eq_getElem hj) hx).2
    · rw [if_neg hc] at hx
      exact h.2 i x hx

/-- The parts of a literal: a struct's fields or an array's elements. -/
def PG.matchParts (g : PG) (place : Nat → Option (Nat × Nat)) : List (Nat × Nat × PX) → List (Nat × Operand) → Bool
  | [], [] => true
  | (off, n, x) :: r, (i, y) :: s => place i == some (off, n) && g.matchX x y && g.matchParts place r s
  | _, _ => false

theorem fill_parts (h : FrRel g c w fr a) {place : Nat → Option (Nat × Nat)} : ∀ {ps : List (Nat × Nat × PX)} {qs : List (Nat × Operand)} {cs cs' : List PV} {us : Array Value}, g.matchParts place ps qs = true → GRel c w cs us → fillParts (evX g.E fr.tmps) cs ps = some cs' →
    ∃ us', Instr.fill place us (qs.map fun p => (p.1, a.eval p.2)) = some us' ∧ GRel c w cs' us'
  | [], [], cs, cs', us, _, hg, hf => by
    simp only [fillParts, Option.some.injEq] at hf
    exact ⟨us, rfl, hf ▸ hg⟩
  | (off, n, x) :: r, (i, y) :: s, cs, cs', us, hm, hg, hf => by
    simp only [PG.matchParts, Bool.and_eq_true, beq_iff_eq] at hm
    obtain ⟨⟨hp, hx⟩, hr⟩ := hm
    simp only [fillParts] at hf
    split at hf
    case isFalse => simp at hf
    rename_i hc
    obtain ⟨hgood, hn, hle⟩ := hc
    have hv := h.x hx
    obtain ⟨hsz, hcell⟩ := hv.cells hgood
    have hg' := hg.splice (off := off) (vs := (evX g.E fr.tmps x).cells) (xs := (a.eval y).cells) hsz.symm hcell (by omega)
    obtain ⟨us', h1, h2⟩ := fill_parts h hr hg' hf
    refine ⟨us', ?_, h2⟩
    simp only [List.map_cons, Instr.fill, hp]
    have hno : ¬ ((a.eval y).cells.size ≠ n ∨ us.size < off + (a.eval y).cells.size) := by
      have := hg.1.1
      omega
    rw [if_neg (by simpa using hno)]
    exact h1
  | [], _ :: _, cs, cs', us, hm, _, _ => by simp [PG.matchParts] at hm
  | _ :: _, [], cs, cs', us, hm, _, _ => by simp [PG.matchParts] at hm

theorem run_mapM_sizes (P : Program) (w : World) : ∀ (l : List Field), (l.all fun f => (P.info? f.type).isSome) = true →
    (l.mapM fun f => (do pure (f.offset, ← sizeOf f.type) : Sem (Nat × Nat))).run P w = .ok (l.map fun f => (f.offset, P.cellsOf f.type)) w
  | [], _ => by simp
  | f :: l, h => by
    simp only [List.all_cons, Bool.and_eq_true] at h
    obtain ⟨i, hi⟩ := Option.isSome_iff_exists.1 h.1
    have ih := run_mapM_sizes P w l h.2
    simp only [List.mapM_cons, Sem.run_bind, run_sizeOf' P w hi, Result.andThen_ok, Sem.run_pure, ih, List.map_cons, Program.cellsOf, hi, Option.map_some, Option.getD_some]

theorem constCells {imm : Nat → Prop} {w : World} {cs : List PV} {us : List Value} (h : constOKL cs us = true) : cs.length = us.length ∧ (∀ (i : Nat) x, us[i]? = some x → x.oneCell' = true) ∧ ∀ (i : Nat) cv x, cs[i]? = some cv → us[i]? = some x → IRel imm w cv x :=
  constOKL_rel imm w cs us h

theorem GRel.const {cs : List PV} {us : Array Value} (h : constOKL cs us.toList = true) : GRel c w cs us := by
  obtain ⟨h1, h2, h3⟩ := constCells (imm := c.imm) (w := w) h
  exact ⟨⟨by simpa using h1, fun i v x hi hx => .i _ _ (h3 i v x hi (by simpa using hx))⟩, fun i x hx => h2 i x (by simpa using hx)⟩

def structPlace (P : Program) (fs : Array Field) (i : Nat) : Option (Nat × Nat) := (fs[i]?).map fun f => (f.offset, P.cellsOf f.type)

theorem ok_build (h : FrRel g c w fr a) {z : List PV} {ps : List (Nat × Nat × PX)} {qs : Array (Nat × Operand)} {t : TypeId} {d : TypeDesc} {i : TypeInfo} {zv : Value} {place : Nat → Option (Nat × Nat)} (ho : o.op = .build t qs) (hi : g.P.info? t = some i) (hz : i.zero = some zv)
    (hzc : constOKL z zv.cells.toList = true) (hd : g.P.underlying t = some d)
    (hp : (∃ fs, d = .struct fs ∧ (fs.toList.all fun f => (g.P.info? f.type).isSome) = true ∧ place = structPlace g.P fs) ∨ (∃ n e ie, d = .array n e ∧ g.P.info? e = some ie ∧ place = fun j => some (j * ie.size, ie.size)))
    (hm : g.matchParts place ps qs.toList = true) (hs : stepOp g.E callE yieldE o.dst (.build z ps) fr = some fr') : OpOK g c w fr fr' a o.dst ((execOp a.eval o).run g.P w) := by
  simp only [stepOp] at hs
  split at hs <;> simp only [Option.some.injEq, reduceCtorEq] at hs
  rename_i cs hf
  subst hs
  obtain ⟨us', h1, h2⟩ := fill_parts h hm (GRel.const (c := c) (w := w) hzc) hf
  refine OpOK.value h _ (v := .agg us') ?_ (.agg _ _ h2.1.1 h2.2 h2.1.2)
  have hzr : (zeroValue t).run g.P w = .ok zv w := by simp [zeroValue, typeInfo, hi, hz]
  have hq : (qs.map fun (p : Nat × Operand) => (p.1, a.eval p.2)).toList = qs.toList.map fun p => (p.1, a.eval p.2) := by simp
  rcases hp with ⟨fs, rfl, hall, rfl⟩ | ⟨n, e, ie, rfl, hie, rfl⟩
  · have hmm : (fs.mapM fun f => (do pure (f.offset, ← sizeOf f.type) : Sem (Nat × Nat))).run g.P w = .ok (fs.map fun f => (f.offset, g.P.cellsOf f.type)) w := by
      rw [Array.mapM_eq_mapM_toList, Sem.run_map, run_mapM_sizes g.P w _ hall]
      simp only [Result.andThen_ok]
      congr 1
      exact Array.ext' (by simp)
    have hpl : (fun j => (fs.map fun f => (f.offset, g.P.cellsOf f.type))[j]?) = structPlace g.P fs := by
      funext j
      simp [structPlace]
    simp only [execOp, ho, Instr.build, Sem.run_bind, hzr, Result.andThen_ok, run_underlying' g.P w hd, hmm, hq, hpl, h1, Sem.run_pure]
  · simp only [execOp, ho, Instr.build, Sem.run_bind, hzr, Result.andThen_ok, run_underlying' g.P w hd, run_sizeOf' g.P w hie, hq, h1, Sem.run_pure]

/-- Elements that lie one behind the other. -/
structure EGRel (R : PV → Value → Prop) (sz : Nat) (els : List PV) (arr : Array Value) : Prop where
  len : ∀ (i : Nat) e, els[i]? = some e → e.cells.length = sz
  size : els.length * sz ≤ arr.size
  cell : ∀ (i j : Nat) e cv, els[i]? = some e → e.cells[j]? = some cv → ∃ u, arr[i * sz + j]? = some u ∧ u.oneCell' = true ∧ R cv u

theorem EGRel.set {sz : Nat} {els : List PV} {arr : Array Value} {e : PV} {xs : Array Value} {k : Nat} (h : EGRel (VRel c w) sz els arr) (hk : k < els.length) (he : e.cells.length = sz) (hx : xs.size = e.cells.length)
    (hr : ∀ (j : Nat) cv x, e.cells[j]? = some cv → xs[j]? = some x → VRel c w cv x ∧ x.oneCell' = true) : EGRel (VRel c w) sz (els.set k e) (fillFold arr (k * sz) xs) := by
  obtain ⟨h1, h2⟩ := fillFold_spec arr (k * sz) xs
  have hks : (k + 1) * sz ≤ els.length * sz := Nat.mul_le_mul_right _ hk
  rw [Nat.add_mul, Nat.one_mul] at hks
  have hsz := h.size
  refine ⟨fun i e' hi => ?_, by rw [List.length_set, h1]; exact h.size, fun i j e' cv hi hj => ?_⟩
  · by_cases hik : k = i
    · subst hik
      rw [List.getElem?_set_self hk] at hi
      simp only [Option.some.injEq] at hi
      exact hi ▸ he
    · rw [List.getElem?_set_ne hik] at hi
      exact h.len i e' hi
  · by_cases hik : k = i
    · subst hik
      rw [List.getElem?_set_self hk] at hi
      simp only [Option.some.injEq] at hi
      subst hi
      have hjl := getElem?_some_lt hj
      have hjx : j < xs.size := by omega
      obtain ⟨r1, r2⟩ := hr j cv xs[j] hj (by simp [hjx])
      refine ⟨xs[j], ?_, r2, r1⟩
      rw [h2, if_pos (by omega)]
      rw [show k * sz + j - k * sz = j by omega]
      simp [hjx]
    · rw [List.getElem?_set_ne hik] at hi
      obtain ⟨u, h3, h4⟩ := h.cell i j e' cv hi hj
      refine ⟨u, ?_, h4⟩
      rw [h2, if_neg, h3]
      have hjl := getElem?_some_lt hj
      have hjs : j < sz := h.len i e' hi ▸ hjl
      intro hcon
      rcases Nat.lt_or_ge i k with hlt | hge
      · have : (i + 1) * sz ≤ k * sz := Nat.mul_le_mul_right _ hlt
        rw [Nat.add_mul, Nat.one_mul] at this
        omega
      · have hgt : k + 1 ≤ i := by omega
        have : (k + 1) * sz ≤ i * sz := Nat.mul_le_mul_right _ hgt
        rw [Nat.add_mul, Nat.one_mul] at this
        omega

def PG.matchElems (g : PG) : List (Nat × PX) → List (Nat × Operand) → Bool
  | [], [] => true
  | (i, x) :: r, (j, y) :: s => i == j && g.matchX x y && g.matchElems r s
  | _, _ => false

theorem fill_elems (h : FrRel g c w fr a) {sz : Nat} : ∀ {ps : List (Nat × PX)} {qs : List (Nat × Operand)} {els els' : List PV} {arr : Array Value}, g.matchElems ps qs = true → EGRel (VRel c w) sz els arr → fillElems (evX g.E fr.tmps) els ps = some els' →
    ∃ arr', Instr.fill (fun i => some (i * sz, sz)) arr (qs.map fun p => (p.1, a.eval p.2)) = some arr' ∧ EGRel (VRel c w) sz els' arr' ∧ els'.length = els.length ∧ arr'.size = arr.size
  | [], [], els, els', arr, _, hg, hf => by
    simp only [fillElems, Option.some.injEq] at hf
    exact ⟨arr, rfl, hf ▸ hg, by rw [hf], rfl⟩
  | (i, x) :: r, (j, y) :: s, els, els', arr, hm, hg, hf => by
    simp only [PG.matchElems, Bool.and_eq_true, beq_iff_eq] at hm
    obtain ⟨⟨rfl, hx⟩, hr⟩ := hm
    simp only [fillElems] at hf
    split at hf
    case h_2 => simp at hf
    rename_i e0 he0
    split at hf
    case isFalse => simp at hf
    rename_i hc
    obtain ⟨hlen, hgood⟩ := hc
    have hv := h.x hx
    obtain ⟨hsz, hcell⟩ := hv.cells hgood
    have hes : (evX g.E fr.tmps x).cells.length = sz := by rw [← hlen]; exact hg.len i e0 he0
    have hi := getElem?_some_lt he0
    have hg' := hg.set (k := i) (e := evX g.E fr.tmps x) (xs := (a.eval y).cells) hi hes hsz hcell
    obtain ⟨arr', h1, h2, h3, h4⟩ := fill_elems h hr hg' hf
    refine ⟨arr', ?_, h2, by rw [h3, List.length_set], by rw [h4]; exact (fillFold_spec _ _ _).1⟩
    simp only [List.map_cons, Instr.fill]
    have hks : (i + 1) * sz ≤ els.length * sz := Nat.mul_le_mul_right _ hi
    rw [Nat.add_mul, Nat.one_mul] at hks
    have := hg.size
    have hno : ¬ ((a.eval y).cells.size ≠ sz ∨ arr.size < i * sz + (a.eval y).cells.size) := by omega
    rw [if_neg (by simpa using hno)]
    exact h1
  | [], _ :: _, els, els', arr, hm, _, _ => by simp [PG.matchElems] at hm
  | _ :: _, [], els, els', arr, hm, _, _ => by simp [PG.matchElems] at hm

/-- Zero elements. -/
theorem EGRel.zeros {R : PV → Value → Prop} {sz n : Nat} {z : List PV} {zc : Array Value} (hz : ∀ e ∈ z, e.cells.length = sz ∧ (∀ (j : Nat) cv x, e.cells[j]? = some cv → zc[j]? = some x → R cv x)) (h1 : ∀ (j : Nat) x, zc[j]? = some x → x.oneCell' = true) (hs : n * sz ≠ 0 → zc.size = sz) (hn : z.length = n) :
    EGRel R sz z ((Array.range (n * sz)).map fun k => zc[k % zc.size]!) := by
  refine ⟨fun i e hi => (hz e (List.mem_of_getElem? hi)).1, by simp [hn], fun i j e cv hi hj => ?_⟩
  have hlt := getElem?_some_lt hi
  have hel := (hz e (List.mem_of_getElem? hi))
  have hjl : j < sz := hel.1 ▸ getElem?_some_lt hj
  have hks : (i + 1) * sz ≤ n * sz := Nat.mul_le_mul_right _ (by omega)
  rw [Nat.add_mul, Nat.one_mul] at hks
  have hns : n * sz ≠ 0 := by omega
  have hzs := hs hns
  have hmod : (i * sz + j) % zc.size = j := by
    rw [hzs, Nat.add_comm, Nat.add_mul_mod_self_right, Nat.mod_eq_of_lt hjl]
  have hjz : j < zc.size := by omega
  refine ⟨zc[j], ?_, h1 j _ (by simp [hjz]), hel.2 j cv _ hj (by simp [hjz])⟩
  rw [Array.getElem?_map, Array.getElem?_range, if_pos (by omega)]
  simp [hmod, hjz]

def constZ (z : PV) (zv : Array Value) : Bool := constOKL z.cells zv.toList

theorem constZ_spec {z : PV} {zv : Array Value} (h : constZ z zv = true) {imm : Nat → Prop} {w : World} : z.cells.length = zv.size ∧ (∀ (j : Nat) x, zv[j]? = some x → x.oneCell' = true) ∧ ∀ (j : Nat) cv x, z.cells[j]? = some cv → zv[j]? = some x → IRel imm w cv x := by
  obtain ⟨h1, h2, h3⟩ := constCells (imm := imm) (w := w) h
  exact ⟨by simpa using h1, fun j x hx => h2 j x (by simpa using hx), fun j cv x hc hx => h3 j cv x hc (by simpa using hx)⟩

theorem run_buildSlice {P : Program} {t E : TypeId} {i : TypeInfo} {zv : Value} {n : Nat} {parts : Array (Nat × Value)} {arr' : Array Value} (ht : P.underlying t = some (.slice E)) (hi : P.info? E = some i) (hz : i.zero = some zv) (hn : n * i.size ≤ 2 ^ 24)
    (hf : ∀ z0 : Array Value, (n * i.size ≠ 0 → z0 = zv.cells) → Instr.fill (fun j => some (j * i.size, i.size)) ((Array.range (n * i.size)).map fun k => z0[k % z0.size]!) parts.toList = some arr') :
    (Instr.buildSlice t n parts).run P w = .ok (.slice (some ⟨w.heap.size, 0, none⟩) n n) (w.alloc (.cells arr' E)) := by
  have hn' : ¬ (n * i.size > 2 ^ 24) := by omega
  simp only [Instr.buildSlice, Sem.run_bind, run_underlying' P w ht, Result.andThen_ok, run_sizeOf' P w hi, Sem.run_ite, if_neg hn', Sem.run_pure]
  by_cases h0 : n * i.size = 0
  · have := hf #[] (fun h => absurd h0 h)
    simp only [h0, if_true] at this ⊢
    rw [this]
    simp [newRow]
  · have := hf zv.cells (fun _ => rfl)
    have hzr : (zeroValue E).run P w = .ok zv w := by simp [zeroValue, typeInfo, hi, hz]
    simp only [h0, if_false, Sem.run_bind, hzr, Result.andThen_ok, Sem.run_pure, this]
    simp [newRow]

/-- Elements in a new row of memory that will not be written: a slice. -/
theorem vs_of_row {imm : Nat → Prop} {sz n cap : Nat} {els : List PV} {arr : Array Value} {b : Nat} {E : TypeId} {f : Fl} {fz : Nat × Nat} (h : EGRel (fun v x => IRel imm w v x) sz els arr) (hb : w.heap[b]? = some (.cells arr E fz)) (hi : imm b) (hn : els.length = n) (hcap : n ≤ cap) (hf : f = .clip → cap = n) (hf' : f ≠ .nil) :
    IRel imm w (.vs f els) (.slice (some ⟨b, 0, none⟩) n cap) := by
  have hpick : ∀ i j, ∃ u, i < els.length → j < sz → w.cell? ⟨b, 0 + i * sz + j, none⟩ = some u ∧ u.oneCell' = true ∧ ∀ e cv, els[i]? = some e → e.cells[j]? = some cv → IRel imm w cv u := by
    intro i j
    by_cases hc : i < els.length ∧ j < sz
    · have he : els[i]? = some els[i] := by simp [hc.1]
      have hl := h.len i _ he
      have hcv : els[i].cells[j]? = some (els[i].cells[j]'(by omega)) := by simp [show j < els[i].cells.length by omega]
      obtain ⟨u, h1, h2, h3⟩ := h.cell i j _ _ he hcv
      refine ⟨u, fun _ _ => ⟨by simp [World.cell?, hb, h1], h2, fun e cv he' hcv' => ?_⟩⟩
      rw [he] at he'
      simp only [Option.some.injEq] at he'
      subst he'
      rw [hcv] at hcv'
      simp only [Option.some.injEq] at hcv'
      exact hcv' ▸ h3
    · exact ⟨undef, fun h1 h2 => absurd ⟨h1, h2⟩ hc⟩
  subst hn
  refine .vs f els b 0 cap sz (fun i j => (hpick i j).choose) hf' hcap hf h.len (fun i j hi' hj => ?_) (fun i j e cv he hcv => ?_)
  · obtain ⟨h1, h2, _⟩ := (hpick i j).choose_spec hi' hj
    exact ⟨hi, h1, h2⟩
  · obtain ⟨_, _, h3⟩ := (hpick i j).choose_spec (getElem?_some_lt he) (h.len i e he ▸ getElem?_some_lt hcv)
    exact h3 e cv he hcv

theorem bsl_row (h : FrRel g c w fr a) {z els : List PV} {ps : List (Nat × PX)} {qs : Array (Nat × Operand)} {t E : TypeId} {n : Nat} {i : TypeInfo} {zv : Value} (ho : o.op = .buildSlice t n qs) (ht : g.P.underlying t = some (.slice E)) (hi : g.P.info? E = some i) (hz : i.zero = some zv)
    (hzn : z.length = n) (hzc : z.all (fun e => constZ e zv.cells) = true) (hzs : zv.cells.size = i.size) (hn : n * i.size ≤ 2 ^ 24) (hm : g.matchElems ps qs.toList = true)
    (hf : fillElems (evX g.E fr.tmps) z ps = some els) :
    ∃ arr', (execOp a.eval o).run g.P w = .ok (.value (.slice (some ⟨w.heap.size, 0, none⟩) n n)) (w.alloc (.cells arr' E)) ∧ EGRel (VRel c w) i.size els arr' ∧ els.length = n := by
  have hzall : ∀ e ∈ z, e.cells.length = i.size ∧ (∀ (j : Nat) x, zv.cells[j]? = some x → x.oneCell' = true) ∧ ∀ (j : Nat) cv x, e.cells[j]? = some cv → zv.cells[j]? = some x → IRel c.imm w cv x := by
    intro e he
    obtain ⟨h1, h2, h3⟩ := constZ_spec (List.all_eq_true.1 hzc e he) (imm := c.imm) (w := w)
    exact ⟨h1.trans hzs, h2, h3⟩
  have hrow : ∀ z0 : Array Value, (n * i.size ≠ 0 → z0 = zv.cells) → EGRel (VRel c w) i.size z ((Array.range (n * i.size)).map fun k => z0[k % z0.size]!) := by
    intro z0 hz0
    by_cases h0 : n * i.size = 0
    · refine ⟨fun k e hk => (hzall e (List.mem_of_getElem? hk)).1, by simp [hzn], fun k j e cv hk hj => ?_⟩
      have h1 := (hzall e (List.mem_of_getElem? hk)).1
      have h2 := getElem?_some_lt hk
      have h3 := getElem?_some_lt hj
      have : (k + 1) * i.size ≤ n * i.size := Nat.mul_le_mul_right _ (by omega)
      rw [Nat.add_mul, Nat.one_mul] at this
      omega
    · rw [hz0 h0]
      refine EGRel.zeros (fun e he => ⟨(hzall e he).1, fun j cv x hcv hx => .i _ _ ((hzall e he).2.2 j cv x hcv hx)⟩) (fun j x hx => ?_) (fun _ => hzs) hzn
      cases hzz : z with
      | nil => rw [hzz] at hzn; simp at hzn; subst hzn; simp at h0
      | cons e r => exact (hzall e (by rw [hzz]; exact List.mem_cons_self ..)).2.1 j x hx
  have hex : ∃ arr', (∀ z0 : Array Value, (n * i.size ≠ 0 → z0 = zv.cells) → Instr.fill (fun j => some (j * i.size, i.size)) ((Array.range (n * i.size)).map fun k => z0[k % z0.size]!) (qs.map fun (p : Nat × Operand) => (p.1, a.eval p.2)).toList = some arr') ∧ EGRel (VRel c w) i.size els arr' ∧ els.length = z.length := by
    have hq : (qs.map fun (p : Nat × Operand) => (p.1, a.eval p.2)).toList = qs.toList.map fun p => (p.1, a.eval p.2) := by simp
    rw [hq]
    obtain ⟨arr', h1, h2, h3, _⟩ := fill_elems h hm (hrow zv.cells fun _ => rfl) hf
    refine ⟨arr', fun z0 hz0 => ?_, h2, h3⟩
    by_cases h0 : n * i.size = 0
    · have e0 : ∀ f : Nat → Value, (Array.range 0).map f = #[] := fun f => by simp
      rw [h0, e0] at h1 ⊢
      exact h1
    · rw [hz0 h0]; exact h1
  obtain ⟨arr', hfill, hrel, hlen⟩ := hex
  have hrun := run_buildSlice (w := w) ht hi hz hn hfill
  exact ⟨arr', by simp [execOp, ho, hrun], hrel, hlen.trans hzn⟩

theorem ok_bsl (h : FrRel g c w fr a) {z : List PV} {ps : List (Nat × PX)} {qs : Array (Nat × Operand)} {t E : TypeId} {n : Nat} {i : TypeInfo} {zv : Value} (ho : o.op = .buildSlice t n qs) (ht : g.P.underlying t = some (.slice E)) (hi : g.P.info? E = some i) (hz : i.zero = some zv)
    (hzn : z.length = n) (hzc : z.all (fun e => constZ e zv.cells) = true) (hzs : zv.cells.size = i.size) (hn : n * i.size ≤ 2 ^ 24) (hm : g.matchElems ps qs.toList = true)
    (hs : stepOp g.E callE yieldE o.dst (.bsl z ps) fr = some fr') : OpOK g c w fr fr' a o.dst ((execOp a.eval o).run g.P w) := by
  simp only [stepOp] at hs
  split at hs
  case h_2 => simp at hs
  rename_i els hf
  split at hs <;> simp only [Option.some.injEq, reduceCtorEq] at hs
  rename_i hlow
  subst hs
  obtain ⟨arr', hrun, hrel, hlen⟩ := bsl_row h ho ht hi hz hzn hzc hzs hn hm hf
  have hE := Ext.alloc c w (.cells arr' E)
  refine OpOK.ext h hE _ (v := .slice (some ⟨w.heap.size, 0, none⟩) n n) ?_ (.i _ _ ?_)
  · exact hrun
  · refine vs_of_row (sz := i.size) (n := n) (b := w.heap.size) (arr := arr') (E := E) (fz := (0, 0)) ?_ ?_ (.inr rfl) hlen (Nat.le_refl _) (fun _ => rfl) (by simp)
    · refine ⟨hrel.len, hrel.size, fun k j e cv hk hj => ?_⟩
      obtain ⟨u, h1, h2, h3⟩ := hrel.cell k j e cv hk hj
      refine ⟨u, h1, h2, ?_⟩
      have hcl : cv.low 0 = true := low_cells (lowL_get hlow hk) hj
      exact (h3.pure hcl).step hE.step h.wf
    · show (w.heap.push _)[w.heap.size]? = _
      simp

end Go.VI
