/- Operations of VI's that write. -/
import Derived.Test.YteodaifeknghaaaVi11
namespace Go.VI
variable {g : PG} {c : Ctx} {w : World} {fr fr' : Fr} {a : Act} {o : Oper} {callE : CallE} {yieldE : Nm → List PV → Heap → Option (PV × Heap)}

theorem seg_get {α : Type} (l us : List α) (q : Nat) (h : q + us.length ≤ l.length) (i : Nat) : (l.take q ++ us ++ l.drop (q + us.length))[i]? = if q ≤ i ∧ i < q + us.length then us[i - q]? else l[i]? := by
  have h1 : min q l.length = q := by omega
  by_cases h2 : i < q
  · rw [List.getElem?_append_left (by simp; omega), List.getElem?_append_left (by simp; omega), List.getElem?_take, if_pos h2, if_neg (by omega)]
  · by_cases h3 : i < q + us.length
    · rw [List.getElem?_append_left (by simp; omega), List.getElem?_append_right (by simp; omega), if_pos ⟨by omega, h3⟩, List.length_take, h1]
    · rw [List.getElem?_append_right (by simp; omega), List.getElem?_drop, if_neg (by omega), List.length_append, List.length_take, h1]
      congr 1
      omega

/-- What becomes of memory when one object's cells are written, or laid elsewhere. -/
structure Redo (c : Ctx) (w w' : World) (n : Nm) (p p' : Place) (k : Nat) : Prop where
  hp : c.obj n = some p
  hk : c.gen n < k ∨ (c.gen n = k ∧ p' = p)
  size : w.heap.size ≤ w'.heap.size
  os : w'.os = w.os
  out : w'.output = w.output
  same : ∀ b, b < w.heap.size → p.blk ≠ some b → w'.heap[b]? = w.heap[b]?
  blk : ∀ b, p'.blk = some b → p.blk = some b ∨ (w.heap.size ≤ b ∧ b < w'.heap.size)

theorem Redo.step {w' : World} {n : Nm} {p p' : Place} {k : Nat} (h : Redo c w w' n p p' k) : Step N0 c w (c.lay n k (some p')) w' where
  size := h.size
  os := h.os
  out := h.out
  gen m := by
    by_cases hm : m = n
    · subst hm
      rw [c.lay_gen_self]
      rcases h.hk with h1 | ⟨h1, _⟩ <;> omega
    · rw [c.lay_gen k _ hm]; exact Nat.le_refl _
  obj m _ he := by
    by_cases hm : m = n
    · subst hm
      rw [c.lay_gen_self] at he
      rcases h.hk with h1 | ⟨_, h2⟩
      · omega
      · rw [c.lay_obj_self, h2, h.hp]
    · rw [c.lay_obj k _ hm]
  phan m hm := hm.elim
  imm b hb := hb
  immNew b hb := .inl hb
  objNew m q b h1 h2 := by
    by_cases hm : m = n
    · subst hm
      rw [c.lay_obj_self] at h1
      simp only [Option.some.injEq] at h1
      subst h1
      rcases h.blk b h2 with h3 | h3
      · exact .inr ⟨m, p, h.hp, h3⟩
      · exact .inl h3.1
    · rw [c.lay_obj k _ hm] at h1
      exact .inr ⟨m, q, h1, h2⟩
  frame b hb hno := h.same b hb (hno n p h.hp)

theorem Redo.wf {G : Nat → Option PV} {w' : World} {n : Nm} {p p' : Place} {k : Nat} (h : Redo c w w' n p p' k) (hw : WF G c w) : WF G (c.lay n k (some p')) w' where
  lt m q b h1 h2 := by
    by_cases hm : m = n
    · subst hm
      rw [c.lay_obj_self] at h1
      simp only [Option.some.injEq] at h1
      subst h1
      rcases h.blk b h2 with h3 | h3
      · exact Nat.lt_of_lt_of_le (hw.lt m p b h.hp h3) h.size
      · exact h3.2
    · rw [c.lay_obj k _ hm] at h1
      exact Nat.lt_of_lt_of_le (hw.lt m q b h1 h2) h.size
  inj m1 m2 q1 q2 b h1 h2 h3 h4 := by
    have key : ∀ m q, m ≠ n → c.obj m = some q → q.blk = some b → p'.blk = some b → False := by
      intro m q hm hq hqb hpb
      rcases h.blk b hpb with h5 | h5
      · exact hm (hw.inj m n q p b hq h.hp hqb h5)
      · have := hw.lt m q b hq hqb
        omega
    by_cases e1 : m1 = n <;> by_cases e2 : m2 = n
    · rw [e1, e2]
    · subst e1
      rw [c.lay_obj_self] at h1
      rw [c.lay_obj k _ e2] at h2
      simp only [Option.some.injEq] at h1
      subst h1
      exact (key m2 q2 e2 h2 h4 h3).elim
    · subst e2
      rw [c.lay_obj_self] at h2
      rw [c.lay_obj k _ e1] at h1
      simp only [Option.some.injEq] at h2
      subst h2
      exact (key m1 q1 e1 h1 h3 h4).elim
    · rw [c.lay_obj k _ e1] at h1
      rw [c.lay_obj k _ e2] at h2
      exact hw.inj m1 m2 q1 q2 b h1 h2 h3 h4
  apart m q b h1 h2 h3 := by
    have hlt := hw.ilt b h3
    by_cases hm : m = n
    · subst hm
      rw [c.lay_obj_self] at h1
      simp only [Option.some.injEq] at h1
      subst h1
      rcases h.blk b h2 with h4 | h4
      · exact hw.apart m p b h.hp h4 h3
      · omega
    · rw [c.lay_obj k _ hm] at h1
      exact hw.apart m q b h1 h2 h3
  ilt b hb := Nat.lt_of_lt_of_le (hw.ilt b hb) h.size
  glob i v hi := (hw.glob i v hi).step h.step hw

theorem FrRel.redo (h : FrRel g c w fr a) {w' : World} {n : Nm} {p p' : Place} {k : Nat} (hr : Redo c w w' n p p' k) {ob0 ob : Ob} (h0 : hget fr.heap n = some ob0) (hob : ObRel g.MC (c.lay n k (some p')) w' n ob) :
    FrRel g (c.lay n k (some p')) w' { fr with heap := hset fr.heap n ob } a := by
  have hS := hr.step
  refine ⟨h.size, fun i => (h.tmps i).step hS h.wf, fun m ob' hg' => ?_, hr.wf h.wf, DefRel.step hS h.wf heap_lt h.defs, fun m hm => ?_⟩
  · by_cases hm : m = n
    · subst hm
      rw [hget_hset_self (hget_lt h0)] at hg'
      simp only [Option.some.injEq] at hg'
      exact hg' ▸ hob
    · rw [hget_hset_ne hm] at hg'
      refine ObRel.keep hS h.wf (c.lay_obj k _ hm) (c.lay_gen k _ hm) (fun q b hq hb => hr.same b (h.wf.lt m q b hq hb) fun hpb => hm (h.wf.inj m n q p b hq hr.hp hb hpb)) (h.heap m ob' hg')
  · by_cases hm' : m = n
    · subst hm'
      rw [hget_hset_self (hget_lt h0)] at hm
      cases hm
    · rw [hget_hset_ne hm'] at hm
      rw [c.lay_gen k _ hm', c.lay_obj k _ hm']
      exact h.hn m hm

theorem setRow_redo {n : Nm} {p : Place} {b k : Nat} (hp : c.obj n = some p) (hb : p.blk = some b) (hk : c.gen n ≤ k) (arr : Array Value) : Redo c w (w.setRow b arr) n p p k where
  hp := hp
  hk := (Nat.lt_or_eq_of_le hk).imp id fun e => ⟨e, rfl⟩
  size := by simp
  os := rfl
  out := rfl
  same b' _ hne := setRow_other w b b' arr fun e => hne (by rw [hb, e])
  blk b' hb' := .inl hb'

/-- Cells of an object's row are written. -/
theorem memRel_write {c' : Ctx} {p : Place} {el el' : List PV} {cl : Bool} {osz b q : Nat} {arr : Array Value} {E : TypeId} {us : List Value} (hM : MemRel c w p el cl osz) (hb : p.blk = some b) (ha : w.heap[b]? = some (.cells arr E (0, 0)))
    (hq : q + us.length ≤ arr.size) (hcap : el'.length ≤ p.cap) (hsz : ∀ (i : Nat) e, el'[i]? = some e → e.cells.length = p.sz)
    (hold : ∀ v u, CRel cl c w v u → CRel cl c' (w.setRow b (arr.toList.take q ++ us ++ arr.toList.drop (q + us.length)).toArray) v u)
    (hcell : ∀ (i j : Nat) e cv, el'[i]? = some e → e.cells[j]? = some cv →
      (q ≤ p.base + i * p.sz + j ∧ p.base + i * p.sz + j < q + us.length ∧ ∃ u, us[p.base + i * p.sz + j - q]? = some u ∧ u.oneCell' = true ∧ CRel cl c w cv u) ∨
      ((p.base + i * p.sz + j < q ∨ q + us.length ≤ p.base + i * p.sz + j) ∧ ∃ e0, el[i]? = some e0 ∧ e0.cells[j]? = some cv)) :
    MemRel c' (w.setRow b (arr.toList.take q ++ us ++ arr.toList.drop (q + us.length)).toArray) p el' cl osz where
  osz := hM.osz
  nil h := by rw [hb] at h; cases h
  cap := hcap
  sz := hsz
  row b' hb' := by
    rw [hb] at hb'
    simp only [Option.some.injEq] at hb'
    subst hb'
    obtain ⟨arr', E', h1, h2, h3⟩ := hM.row b hb
    rw [ha] at h1
    simp only [Option.some.injEq, Obj.cells.injEq] at h1
    obtain ⟨rfl, rfl, _⟩ := h1
    refine ⟨_, _, setRow_heap w b arr _ E (0, 0) ha, ?_, fun i j e cv he hj => ?_⟩
    · simp only [List.size_toArray, List.length_append, List.length_take, List.length_drop, Array.length_toList]
      omega
    · rcases hcell i j e cv he hj with ⟨h4, h5, u, h6, h7, h8⟩ | ⟨h4, e0, h5, h6⟩
      · refine ⟨u, ?_, h7, hold _ _ h8⟩
        rw [List.getElem?_toArray, seg_get _ _ _ (by simpa using hq), if_pos ⟨h4, h5⟩]
        exact h6
      · obtain ⟨u, h7, h8, h9⟩ := h3 i j e0 cv h5 h6
        refine ⟨u, ?_, h8, hold _ _ h9⟩
        rw [List.getElem?_toArray, seg_get _ _ _ (by simpa using hq), if_neg (by omega), Array.getElem?_toList]
        exact h7

theorem CRel.step {G : Nat → Option PV} {N : Nm → Prop} {c c' : Ctx} {w w' : World} {cl : Bool} (h : Step N c w c' w') (hw : WF G c w) {v : PV} {u : Value} (hv : CRel cl c w v u) : CRel cl c' w' v u := by
  cases cl
  · exact VRel.step h hw hv
  · exact IRel.step h hw hv

theorem run_storeAt {P : Program} {t : TypeId} {i : TypeInfo} {b q : Nat} {arr : Array Value} {E : TypeId} {v : Value} (hi : P.info? t = some i) (ha : w.heap[b]? = some (.cells arr E (0, 0))) (hs : v.cells.size = i.size) (hq : q + i.size ≤ arr.size) (h1 : ∀ x ∈ v.cells.toList, x.oneCell' = true) :
    (Instr.storeAt t (.pointer (some ⟨b, q, none⟩)) v).run P w = .ok () (w.setRow b (arr.toList.take q ++ v.cells.toList ++ arr.toList.drop (q + v.cells.toList.length)).toArray) := by
  have := run_storeCells_at (P := P) b q E v.cells.toList 0 arr w ha (by simp; omega) h1
  simp [Instr.storeAt, Instr.sureAddr, storeVar, sizeOf, typeInfo, hi, hs, this]

theorem undef_rel : VRel c w (.tuple []) undef := .i _ _ (.tuple [] #[] rfl fun i c u hc => by simp at hc)

theorem fits_spec {P : Program} {t : TypeId} {k : Option Nat} {i : TypeInfo} {v : PV} (hk : kOK P t k = true) (hi : P.info? t = some i) (hf : v.fits k = true) : v.good = true ∧ v.cells.length = i.size ∧ ((k = none ∧ v.cells = [v]) ∨ ∃ cs, v = .agg cs ∧ k = some i.size) := by
  unfold kOK at hk
  rw [hi] at hk
  split at hk
  case h_2 => cases hk
  rename_i d i' hd hi'
  simp only [Option.some.injEq] at hi'
  subst hi'
  split at hk
  · simp only [beq_iff_eq] at hk
    subst hk
    cases v <;> simp_all [PV.fits, PV.good, PV.cells]
  · simp only [Bool.and_eq_true, beq_iff_eq] at hk
    obtain ⟨rfl, h1⟩ := hk
    cases v <;> simp_all [PV.fits, PV.good, PV.cells]

theorem pure_cells {v : PV} {u : Value} (h : VRel c w v u) (hg : v.good = true) {cl : Bool} (hcl : (!cl || v.pure) = true) :
    u.cells.size = v.cells.length ∧ ∀ (j : Nat) cv x, v.cells[j]? = some cv → u.cells[j]? = some x → CRel cl c w cv x ∧ x.oneCell' = true := by
  obtain ⟨h1, h2⟩ := h.cells hg
  refine ⟨h1, fun j cv x hc hx => ⟨?_, (h2 j cv x hc hx).2⟩⟩
  cases cl
  · exact (h2 j cv x hc hx).1
  · exact (h2 j cv x hc hx).1.pure (low_cells (by simpa [PV.pure] using hcl) hc)

theorem ok_store (h : FrRel g c w fr a) {k : Option Nat} {x y : PX} {x' y' : Operand} {t : TypeId} {i : TypeInfo} (ho : o.op = .store t x' y') (hk : kOK g.P t k = true) (hi : g.P.info? t = some i) (hx : g.matchX x x' = true) (hy : g.matchX y y' = true)
    (hs : stepOp g.E callE yieldE o.dst (.store k x y) fr = some fr') : OpOK g c w fr fr' a o.dst ((execOp a.eval o).run g.P w) := by
  have h1 := h.x hx
  have h2 := h.x hy
  simp only [stepOp] at hs
  split at hs
  case h_2 => simp at hs
  rename_i n gg ei off e
  split at hs
  case h_2 => simp at hs
  rename_i el g' cl osz hob
  split at hs
  case isFalse => simp at hs
  rename_i hc
  obtain ⟨rfl, hfit, hcl⟩ := hc
  rw [e] at h1
  obtain ⟨p, b, hp, hb, e1, hM⟩ := ptr_live h.heap h1 hob
  obtain ⟨hgood, hlen, hkind⟩ := fits_spec hk hi hfit
  obtain ⟨hcs, hcc⟩ := pure_cells h2 hgood hcl
  obtain ⟨arr, E, ha, hsz, _⟩ := hM.row b hb
  have hgen := (h.heap n _ hob).1
  -- one write
  have fin : ∀ (e0 e' : PV), el[ei]? = some e0 → e'.cells = splice e0.cells off (evX g.E fr.tmps y).cells → off + (evX g.E fr.tmps y).cells.length ≤ e0.cells.length →
      OpOK g c w fr ({ fr with heap := hset fr.heap n (.mem (el.set ei e') gg cl osz) }.put o.dst (.tuple [])) a o.dst ((execOp a.eval o).run g.P w) := by
    intro e0 e' he0 he' hoff
    have hi0 := getElem?_some_lt he0
    have hs0 := hM.sz ei e0 he0
    have hcap := hM.cap
    have hks : (ei + 1) * p.sz ≤ p.cap * p.sz := Nat.mul_le_mul_right _ (by omega)
    rw [Nat.add_mul, Nat.one_mul] at hks
    have hlenu : (a.eval y').cells.toList.length = (evX g.E fr.tmps y).cells.length := by simpa using hcs
    have hq : p.base + ei * p.sz + off + (a.eval y').cells.toList.length ≤ arr.size := by omega
    have hone : ∀ z ∈ (a.eval y').cells.toList, z.oneCell' = true := by
      intro z hz
      obtain ⟨j, hj⟩ := List.mem_iff_getElem?.1 hz
      have hjl := getElem?_some_lt hj
      exact (hcc j _ z (List.getElem?_eq_getElem (by omega)) (by simpa using hj)).2
    have hrun := run_storeAt (q := p.base + ei * p.sz + off) hi ha (by rw [hcs]; exact hlen) (by rw [← hlen, ← hlenu]; exact hq) hone
    have hredo : Redo c w (w.setRow b (arr.toList.take (p.base + ei * p.sz + off) ++ (a.eval y').cells.toList ++ arr.toList.drop (p.base + ei * p.sz + off + (a.eval y').cells.toList.length)).toArray) n p p gg :=
      setRow_redo hp hb (Nat.le_of_eq hgen) _
    have hob' : ObRel g.MC (c.lay n gg (some p)) (w.setRow b (arr.toList.take (p.base + ei * p.sz + off) ++ (a.eval y').cells.toList ++ arr.toList.drop (p.base + ei * p.sz + off + (a.eval y').cells.toList.length)).toArray) n (.mem (el.set ei e') gg cl osz) := by
      refine ⟨Ctx.lay_gen_self _ _ _ _, fun q hq' => ?_⟩
      rw [Ctx.lay_obj_self] at hq'
      simp only [Option.some.injEq] at hq'
      subst hq'
      have hspl : ∀ j, (splice e0.cells off (evX g.E fr.tmps y).cells)[j]? = if off ≤ j ∧ j < off + (evX g.E fr.tmps y).cells.length then (evX g.E fr.tmps y).cells[j - off]? else e0.cells[j]? := fun j => seg_get _ _ _ hoff j
      have hsl : e'.cells.length = p.sz := by
        rw [he']; simp only [splice, List.length_append, List.length_take, List.length_drop]; omega
      refine memRel_write hM hb ha hq (by simpa using hcap) (fun i' e2 h' => ?_) (fun v u hv => CRel.step hredo.step h.wf hv) (fun i' j e2 cv h' hj => ?_)
      · rw [List.getElem?_set] at h'
        split at h'
        · rename_i hei
          subst hei
          simp only [Option.some.injEq] at h'
          subst h'
          exact hsl
        · exact hM.sz i' e2 h'
      · rw [List.getElem?_set] at h'
        split at h'
        · rename_i hei
          subst hei
          simp only [Option.some.injEq] at h'
          subst h'
          rw [he', hspl] at hj
          split at hj
          · rename_i hin
            refine .inl ⟨by omega, by omega, ?_⟩
            have hju : j - off < (a.eval y').cells.toList.length := by omega
            have hidx : p.base + ei * p.sz + j - (p.base + ei * p.sz + off) = j - off := by omega
            rw [hidx]
            refine ⟨(a.eval y').cells.toList[j - off], List.getElem?_eq_getElem hju, ?_⟩
            have := hcc (j - off) cv (a.eval y').cells.toList[j - off] hj (by rw [← Array.getElem?_toList]; exact List.getElem?_eq_getElem hju)
            exact ⟨this.2, this.1⟩
          · rename_i hin
            exact .inr ⟨by omega, e0, he0, hj⟩
        · rename_i hei
          have hjl : j < p.sz := by have := hM.sz i' e2 h'; have := getElem?_some_lt hj; omega
          refine .inr ⟨?_, e2, h', hj⟩
          rcases Nat.lt_or_gt_of_ne hei with hlt | hgt
          · right
            have : (ei + 1) * p.sz ≤ i' * p.sz := Nat.mul_le_mul_right _ (by omega)
            rw [Nat.add_mul, Nat.one_mul] at this
            omega
          · left
            have : (i' + 1) * p.sz ≤ ei * p.sz := Nat.mul_le_mul_right _ (by omega)
            rw [Nat.add_mul, Nat.one_mul] at this
            omega
    exact ⟨undef, _, _, .inr ⟨by simp [execOp, ho, e1, hrun], rfl⟩, hredo.step, FrRel.put (h.redo hredo hob hob') o.dst undef_rel⟩
  split at hs
  · rename_i cs he0
    split at hs <;> simp only [Option.some.injEq, reduceCtorEq] at hs
    rename_i hoff
    subst hs
    exact fin (.agg cs) _ he0 rfl hoff
  · rename_i e0 hna he0
    split at hs <;> simp only [Option.some.injEq, reduceCtorEq] at hs
    rename_i hc
    obtain ⟨rfl, rfl⟩ := hc
    subst hs
    have hc1 : (evX g.E fr.tmps y).cells = [evX g.E fr.tmps y] := by
      rcases hkind with ⟨_, h5⟩ | ⟨cs, h5, h6⟩
      · exact h5
      · cases h6
    have hc0 : e0.cells = [e0] := by cases e0 <;> first | rfl | exact absurd rfl (hna _)
    refine fin e0 _ he0 ?_ ?_
    · rw [hc0, hc1]; rfl
    · rw [hc0, hc1]; simp
  · simp at hs

end Go.VI
