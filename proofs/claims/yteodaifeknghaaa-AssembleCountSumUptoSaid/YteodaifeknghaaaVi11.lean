/- More operations of VI's that lay: slice literals, make. -/
import Derived.Test.YteodaifeknghaaaVi10
import Derived.Laws.MakeOwn
namespace Go.VI
variable {g : PG} {c : Ctx} {w : World} {fr fr' : Fr} {a : Act} {o : Oper}

theorem lay_bslm (h : FrRel g c w fr a) {nm : Nm} {k : Nat} (hR : Room c nm k) {s : Nat} {cl : Bool} {pv : PV} {ob : Ob} {z : List PV} {ps : List (Nat × PX)} {qs : Array (Nat × Operand)} {t E : TypeId} {n : Nat} {i : TypeInfo} {zv : Value} (ho : o.op = .buildSlice t n qs) (ht : g.P.underlying t = some (.slice E)) (hi : g.P.info? E = some i) (hz : i.zero = some zv)
    (hzn : z.length = n) (hzc : z.all (fun e => constZ e zv.cells) = true) (hzs : zv.cells.size = i.size) (hn : n * i.size ≤ 2 ^ 24) (hm : g.matchElems ps qs.toList = true)
    (hs : layE (evX g.E fr.tmps) nm (.bslm s cl i.size z ps) k = some (pv, ob)) : LayOK g c w nm k ob pv ((execOp a.eval o).run g.P w) := by
  simp only [layE] at hs
  split at hs
  case h_2 => simp at hs
  rename_i els hf
  split at hs <;> simp only [Option.some.injEq, reduceCtorEq, Prod.mk.injEq] at hs
  rename_i hlow
  obtain ⟨rfl, rfl⟩ := hs
  obtain ⟨arr', hrun, hrel, hlen⟩ := bsl_row h ho ht hi hz hzn hzc hzs hn hm hf
  have hM := More.alloc w (.cells arr' E)
  have hp := fits_alloc w (.cells arr' E) 0 i.size n
  have hS := step_lay hM hR hp
  refine ⟨_, _, _, hrun, hM, hp, ⟨Ctx.lay_gen_self _ _ _ _, fun q hq => ?_⟩, ?_⟩
  · rw [Ctx.lay_obj_self] at hq
    simp only [Option.some.injEq] at hq
    subst hq
    refine memRel_new ⟨hrel.len, hrel.size, fun k' j e cv hk hj => ?_⟩ (alloc_heap _ _) (by omega) (by rw [← hlen]; exact hrel.size)
    obtain ⟨u, h1, h2, h3⟩ := hrel.cell k' j e cv hk hj
    refine ⟨u, h1, h2, ?_⟩
    cases cl
    · exact h3.step hS h.wf
    · have hcl : cv.low 0 = true := low_cells (lowL_get (by simpa using hlow) hk) hj
      exact (h3.pure hcl).step hS h.wf
  · have := VRel.sl (c := c.lay nm k (some ⟨some w.heap.size, 0, i.size, n⟩)) (w := w.alloc (.cells arr' E)) nm k 0 n _ w.heap.size (by rw [Ctx.lay_gen_self]; exact Nat.le_refl _) (Ctx.lay_obj_self _ _ _ _) rfl (by simp)
    simpa [hlen] using this

theorem lay_mkmap (_h : FrRel g c w fr a) {nm : Nm} {k : Nat} (_hR : Room c nm k) {s : Nat} {pv : PV} {ob : Ob} {t : TypeId} {r : Option Operand} (ho : o.op = .makeMap t r)
    (hr : r = none ∨ ∃ (k e : TypeId) (i : IntKind) (n : Int), g.P.underlying t = some (.map k e) ∧ r = some (.const (.int i n)))
    (hs : layE (evX g.E fr.tmps) nm (.mkmap s) k = some (pv, ob)) : LayOK g c w nm k ob pv ((execOp a.eval o).run g.P w) := by
  simp only [layE, Option.some.injEq, Prod.mk.injEq] at hs
  obtain ⟨rfl, rfl⟩ := hs
  have hM := More.alloc w (.map #[] 0)
  have hp := fits_alloc w (.map #[] 0) 0 0 0
  refine ⟨.map (some w.heap.size), _, _, ?_, hM, hp, ⟨Ctx.lay_gen_self _ _ _ _, fun q hq => ?_⟩, ?_⟩
  · rcases hr with rfl | ⟨k', e, i, n, ht, rfl⟩
    · simp [execOp, ho, Instr.makeMap]
    · simp [execOp, ho, Instr.makeMap, run_underlying' g.P w ht, Act.eval, asInt, asIntOf]
  · rw [Ctx.lay_obj_self] at hq
    simp only [Option.some.injEq] at hq
    subst hq
    exact ⟨w.heap.size, #[], rfl, alloc_heap _ _, rfl, fun i e x he => by simp at he⟩
  · exact VRel.map nm k _ w.heap.size (by rw [Ctx.lay_gen_self]; exact Nat.le_refl _) (Ctx.lay_obj_self _ _ _ _) rfl

theorem lay_mkslice (h : FrRel g c w fr a) {nm : Nm} {k : Nat} (hR : Room c nm k) {s bytes : Nat} {cl : Bool} {z : PV} {len cap : PX} {len' cap' : Operand} {pv : PV} {ob : Ob} {t E : TypeId} {i : TypeInfo} {zv : Value} (ho : o.op = .makeSlice t len' cap')
    (ht : g.P.underlying t = some (.slice E)) (hi : g.P.info? E = some i) (hz : i.zero = some zv) (hzc : constZ z zv.cells = true) (hzs : zv.cells.size = i.size) (hb : i.bytes = bytes) (hl : g.matchX len len' = true) (hc : g.matchX cap cap' = true)
    (hs : layE (evX g.E fr.tmps) nm (.mkslice s cl bytes z len cap) k = some (pv, ob)) : LayOK g c w nm k ob pv ((execOp a.eval o).run g.P w) := by
  simp only [layE] at hs
  have v1 := h.x hl
  have v2 := h.x hc
  split at hs
  case h_2 => simp at hs
  rename_i n m e1 e2
  rw [e1] at v1
  rw [e2] at v2
  have v1 := v1.int_inv
  have v2 := v2.int_inv
  split at hs <;> simp only [Option.some.injEq, reduceCtorEq, Prod.mk.injEq] at hs
  rename_i hc
  obtain ⟨h0, hnm, hbm, hm, hcl⟩ := hc
  obtain ⟨rfl, rfl⟩ := hs
  subst hb
  have hrun := run_make (P := g.P) w t E i zv ht hi hz .i64 .i64 n m h0 hnm (by rw [Int.mul_comm]; omega) (by omega)
  have hM := More.alloc w (.cells (madeCells zv.cells (m.toNat * i.size)) E)
  have hp := fits_alloc w (.cells (madeCells zv.cells (m.toNat * i.size)) E) 0 i.size m.toNat
  have hS := step_lay hM hR hp
  obtain ⟨z1, z2, z3⟩ := constZ_spec hzc (imm := c.imm) (w := w.alloc (.cells (madeCells zv.cells (m.toNat * i.size)) E))
  have hnm' : n.toNat ≤ m.toNat := by omega
  rw [z1.trans hzs]
  refine ⟨.slice (some ⟨w.heap.size, 0, none⟩) n.toNat m.toNat, w.alloc (.cells (madeCells zv.cells (m.toNat * i.size)) E), ⟨some w.heap.size, 0, i.size, m.toNat⟩, by simp [execOp, ho, v1, v2, hrun], hM, hp, ⟨Ctx.lay_gen_self _ _ _ _, fun q hq => ?_⟩, ?_⟩
  · rw [Ctx.lay_obj_self] at hq
    simp only [Option.some.injEq] at hq
    subst hq
    refine memRel_new (EGRel.mk (R := CRel cl (c.lay nm k (some ⟨some w.heap.size, 0, i.size, m.toNat⟩)) (w.alloc (.cells (madeCells zv.cells (m.toNat * i.size)) E))) (fun k' e he => ?_) (by rw [size_madeCells, List.length_replicate]; exact Nat.mul_le_mul_right _ hnm') fun k' j e cv he hj => ?_) (alloc_heap _ _) (by rw [List.length_replicate]; exact hnm') (by rw [size_madeCells]; exact Nat.le_refl _)
    · rw [List.getElem?_replicate] at he
      split at he <;> simp only [Option.some.injEq, reduceCtorEq] at he
      subst he
      exact z1.trans hzs
    · rw [List.getElem?_replicate] at he
      split at he <;> simp only [Option.some.injEq, reduceCtorEq] at he
      rename_i hk'
      subst he
      have hj' : j < i.size := by have := getElem?_some_lt hj; omega
      have hlt : (k' + 1) * i.size ≤ m.toNat * i.size := Nat.mul_le_mul_right _ (by omega)
      rw [Nat.add_mul, Nat.one_mul] at hlt
      have hjz : j < zv.cells.size := by omega
      have hmod : (k' * i.size + j) % zv.cells.size = j := by rw [hzs, Nat.add_comm, Nat.add_mul_mod_self_right, Nat.mod_eq_of_lt hj']
      refine ⟨zv.cells[j], ?_, z2 j _ (by simp [hjz]), ?_⟩
      · unfold madeCells
        rw [Array.getElem?_map, Array.getElem?_range, if_pos (by omega)]
        simp [hmod, hjz]
      · have := z3 j cv zv.cells[j] hj (by simp [hjz])
        cases cl
        · exact .i _ _ this
        · exact this
  · have := VRel.sl (c := c.lay nm k (some ⟨some w.heap.size, 0, i.size, m.toNat⟩)) (w := w.alloc (.cells (madeCells zv.cells (m.toNat * i.size)) E)) nm k 0 n.toNat _ w.heap.size (by rw [Ctx.lay_gen_self]; exact Nat.le_refl _) (Ctx.lay_obj_self _ _ _ _) rfl (by simpa using hnm')
    simpa using this

end Go.VI
