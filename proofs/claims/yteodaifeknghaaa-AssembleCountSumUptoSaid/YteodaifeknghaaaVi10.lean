/- Operations of VI's that lay new variables and arrays, and that write. -/
import Derived.Test.YteodaifeknghaaaVi9
import Derived.Laws.CopyRow
namespace Go.VI
variable {g : PG} {c : Ctx} {w : World} {fr fr' : Fr} {a : Act} {o : Oper} {callE : CallE} {yieldE : Nm → List PV → Heap → Option (PV × Heap)}

theorem ObRel.keep {G : Nat → Option PV} {MC : PC → Code → Prop} {N : Nm → Prop} {c c' : Ctx} {w w' : World} (h : Step N c w c' w') (hw : WF G c w) {m : Nm} {ob : Ob} (ho : c'.obj m = c.obj m) (hg : c'.gen m = c.gen m)
    (hb : ∀ p b, c.obj m = some p → p.blk = some b → w'.heap[b]? = w.heap[b]?) (hr : ObRel MC c w m ob) : ObRel MC c' w' m ob := by
  cases ob with
  | mem el gg cl osz =>
    obtain ⟨h1, h2⟩ := hr
    refine ⟨hg.trans h1, fun p hp => ?_⟩
    have hm := h2 p (ho ▸ hp)
    refine ⟨hm.osz, hm.nil, hm.cap, hm.sz, fun b hbb => ?_⟩
    obtain ⟨arr, E, h3, h4, h5⟩ := hm.row b hbb
    refine ⟨arr, E, (hb p b (ho ▸ hp) hbb).trans h3, h4, fun i j e cv he hj => ?_⟩
    obtain ⟨u, h6, h7, h8⟩ := h5 i j e cv he hj
    refine ⟨u, h6, h7, ?_⟩
    cases cl
    · exact VRel.step h hw h8
    · exact IRel.step h hw h8
  | map es clock gg =>
    obtain ⟨h1, h2⟩ := hr
    refine ⟨hg.trans h1, fun p hp => ?_⟩
    obtain ⟨b, arr, h3, h4, h5, h6⟩ := h2 p (ho ▸ hp)
    refine ⟨b, arr, h3, (hb p b (ho ▸ hp) h3).trans h4, h5, fun i e x he hx => ?_⟩
    obtain ⟨h8, h9⟩ := h6 i e x he hx
    exact ⟨h8.step h hw, h9.step h hw⟩
  | loop tmps params assign body jump gg =>
    obtain ⟨h1, h2⟩ := hr
    refine ⟨hg.trans h1, fun p hp => ?_⟩
    obtain ⟨b, h3, l, h4, h5, h6, h7, h8⟩ := h2 p (ho ▸ hp)
    exact ⟨b, h3, l, (hb p b (ho ▸ hp) h3).trans h4, h5, h6, fun i => VRel.step h hw (h7 i), h8⟩
  | dead gg => exact hg.trans hr

open Classical in
/-- A new object gets a name. -/
noncomputable def Ctx.lay (c : Ctx) (n : Nm) (k : Nat) (p : Option Place) : Ctx := { c with obj := fun m => if m = n then p else c.obj m, gen := fun m => if m = n then k else c.gen m }

theorem Ctx.lay_obj_self (c : Ctx) (n : Nm) (k : Nat) (p : Option Place) : (c.lay n k p).obj n = p := by simp [Ctx.lay]
theorem Ctx.lay_gen_self (c : Ctx) (n : Nm) (k : Nat) (p : Option Place) : (c.lay n k p).gen n = k := by simp [Ctx.lay]
theorem Ctx.lay_obj (c : Ctx) {n m : Nm} (k : Nat) (p : Option Place) (h : m ≠ n) : (c.lay n k p).obj m = c.obj m := by simp [Ctx.lay, h]
theorem Ctx.lay_gen (c : Ctx) {n m : Nm} (k : Nat) (p : Option Place) (h : m ≠ n) : (c.lay n k p).gen m = c.gen m := by simp [Ctx.lay, h]

/-- New memory, and nothing else. -/
structure More (w w' : World) : Prop where
  size : w.heap.size ≤ w'.heap.size
  os : w'.os = w.os
  out : w'.output = w.output
  same : ∀ b, b < w.heap.size → w'.heap[b]? = w.heap[b]?

theorem More.refl (w : World) : More w w := ⟨Nat.le_refl _, rfl, rfl, fun _ _ => rfl⟩
theorem More.alloc (w : World) (ob : Obj) : More w (w.alloc ob) :=
  ⟨by simp, rfl, rfl, fun b hb => by
    show (w.heap.push ob)[b]? = _
    rw [Array.getElem?_push_lt hb]
    simp [hb]⟩
theorem More.drew (w : World) : More w w.drew := ⟨Nat.le_refl _, rfl, rfl, fun _ _ => rfl⟩
theorem More.trans {w1 w2 w3 : World} (h : More w1 w2) (h' : More w2 w3) : More w1 w3 :=
  ⟨Nat.le_trans h.size h'.size, h'.os.trans h.os, h'.out.trans h.out, fun b hb => (h'.same b (Nat.lt_of_lt_of_le hb h.size)).trans (h.same b hb)⟩

/-- A name that nothing can refer to at the generation k. -/
def Room (c : Ctx) (n : Nm) (k : Nat) : Prop := c.gen n ≤ k ∧ (c.gen n = k → c.obj n = none)

def Fits (w w' : World) (p : Option Place) : Prop := ∀ q b, p = some q → q.blk = some b → w.heap.size ≤ b ∧ b < w'.heap.size

theorem step_lay {w' : World} (h : More w w') {n : Nm} {k : Nat} {p : Option Place} (hR : Room c n k) (hp : Fits w w' p) : Step (fun m => m = n ∧ c.obj m = none) c w (c.lay n k p) w' where
  size := h.size
  os := h.os
  out := h.out
  gen m := by
    by_cases hm : m = n
    · subst hm; rw [c.lay_gen_self]; exact hR.1
    · rw [c.lay_gen k p hm]; exact Nat.le_refl _
  obj m hm he := by
    by_cases hm' : m = n
    · subst hm'
      rw [c.lay_gen_self] at he
      exact absurd ⟨rfl, hR.2 he.symm⟩ hm
    · rw [c.lay_obj k p hm']
  phan m hm := hm.2
  imm b hb := hb
  immNew b hb := .inl hb
  objNew m q b h1 h2 := by
    by_cases hm : m = n
    · subst hm
      rw [c.lay_obj_self] at h1
      exact .inl (hp q b h1 h2).1
    · rw [c.lay_obj k p hm] at h1
      exact .inr ⟨m, q, h1, h2⟩
  frame b hb _ := h.same b hb

theorem step_lay0 {w' : World} (h : More w w') {n : Nm} {k : Nat} {p : Option Place} (hR : c.gen n < k) (hp : Fits w w' p) : Step N0 c w (c.lay n k p) w' := by
  have hs := step_lay (p := p) h (n := n) (k := k) ⟨Nat.le_of_lt hR, fun e => by omega⟩ hp
  refine ⟨hs.size, hs.os, hs.out, hs.gen, fun m _ he => ?_, fun _ h => h.elim, hs.imm, hs.immNew, hs.objNew, hs.frame⟩
  refine hs.obj m (fun hm => ?_) he
  rw [hm.1, c.lay_gen_self] at he
  omega

theorem wf_lay {G : Nat → Option PV} {w' : World} (hw : WF G c w) (h : More w w') {n : Nm} {k : Nat} {p : Option Place} (hR : Room c n k) (hp : Fits w w' p) : WF G (c.lay n k p) w' where
  lt m q b h1 h2 := by
    by_cases hm : m = n
    · subst hm
      rw [c.lay_obj_self] at h1
      exact (hp q b h1 h2).2
    · rw [c.lay_obj k p hm] at h1
      exact Nat.lt_of_lt_of_le (hw.lt m q b h1 h2) h.size
  inj m1 m2 q1 q2 b h1 h2 h3 h4 := by
    by_cases e1 : m1 = n <;> by_cases e2 : m2 = n
    · rw [e1, e2]
    · subst e1
      rw [c.lay_obj_self] at h1
      rw [c.lay_obj k p e2] at h2
      have := hw.lt m2 q2 b h2 h4
      have := (hp q1 b h1 h3).1
      omega
    · subst e2
      rw [c.lay_obj_self] at h2
      rw [c.lay_obj k p e1] at h1
      have := hw.lt m1 q1 b h1 h3
      have := (hp q2 b h2 h4).1
      omega
    · rw [c.lay_obj k p e1] at h1
      rw [c.lay_obj k p e2] at h2
      exact hw.inj m1 m2 q1 q2 b h1 h2 h3 h4
  apart m q b h1 h2 h3 := by
    have hlt := hw.ilt b h3
    by_cases hm : m = n
    · subst hm
      rw [c.lay_obj_self] at h1
      have := (hp q b h1 h2).1
      omega
    · rw [c.lay_obj k p hm] at h1
      exact hw.apart m q b h1 h2 h3
  ilt b hb := Nat.lt_of_lt_of_le (hw.ilt b hb) h.size
  glob i v hi := (hw.glob i v hi).step (step_lay h hR hp) hw

/-- The frame after a new object has been laid at the name n. -/
theorem FrRel.lay {w' : World} (h : FrRel g c w fr a) {n : Nm} {k : Nat} (hR : Room c n k) (hlen : n.2 < (fr.heap.getD n.1 []).length) (hM : More w w') {p : Option Place} (hp : Fits w w' p) {ob : Ob} (hob : ObRel g.MC (c.lay n k p) w' n ob) :
    FrRel g (c.lay n k p) w' { fr with heap := hset fr.heap n ob } a := by
  have hS := step_lay hM hR hp
  refine ⟨h.size, fun i => (h.tmps i).step hS h.wf, fun m ob' hg' => ?_, wf_lay h.wf hM hR hp, DefRel.step hS h.wf heap_lt h.defs, fun m hm => ?_⟩
  · by_cases hm : m = n
    · subst hm
      rw [hget_hset_self hlen] at hg'
      simp only [Option.some.injEq] at hg'
      exact hg' ▸ hob
    · rw [hget_hset_ne hm] at hg'
      exact ObRel.keep hS h.wf (c.lay_obj k p hm) (c.lay_gen k p hm) (fun q b hq hb => hM.same b (h.wf.lt m q b hq hb)) (h.heap m ob' hg')
  · by_cases hm' : m = n
    · subst hm'
      rw [hget_hset_self hlen] at hm
      cases hm
    · rw [hget_hset_ne hm'] at hm
      rw [c.lay_gen k p hm', c.lay_obj k p hm']
      exact h.hn m hm

theorem ObRel.gen {MC : PC → Code → Prop} {n : Nm} {ob : Ob} (h : ObRel MC c w n ob) : c.gen n = ob.gen := by
  cases ob with
  | mem => exact h.1
  | map => exact h.1
  | loop => exact h.1
  | dead => exact h

theorem FrRel.next (h : FrRel g c w fr a) (n : Nm) : c.gen n < nextGen fr.heap n := by
  unfold nextGen
  split
  · rename_i ob ho
    have := (h.heap n ob ho).gen
    omega
  · rename_i ho
    have := (h.hn n ho).1
    omega

/-- What a laying operation must show. -/
def LayOK (g : PG) (c : Ctx) (w : World) (n : Nm) (k : Nat) (ob : Ob) (pv : PV) (r : Result Next) : Prop :=
  ∃ (v : Value) (w' : World) (p : Place), r = .ok (.value v) w' ∧ More w w' ∧ Fits w w' (some p) ∧ ObRel g.MC (c.lay n k (some p)) w' n ob ∧ VRel (c.lay n k (some p)) w' pv v

theorem OpOK.lay (h : FrRel g c w fr a) {s : Nat} {dst : Option Nat} {f : Nat → Option (PV × Ob)} (hs : fr.lay dst s f = some fr') {r : Result Next}
    (hl : ∀ k pv ob, Room c (fr.nm s) k → f k = some (pv, ob) → LayOK g c w (fr.nm s) k ob pv r) : OpOK g c w fr fr' a dst r := by
  unfold Fr.lay at hs
  split at hs
  case isFalse => simp at hs
  rename_i hlen
  split at hs <;> simp only [Option.some.injEq, reduceCtorEq] at hs
  rename_i pv ob hf
  have hlt := h.next (fr.nm s)
  have hR : Room c (fr.nm s) (nextGen fr.heap (fr.nm s)) := ⟨Nat.le_of_lt hlt, fun e => by omega⟩
  obtain ⟨v, w', p, hr, hM, hp, hob, hv⟩ := hl _ _ _ hR hf
  subst hs
  exact ⟨v, w', _, .inl hr, step_lay0 hM hlt hp, (FrRel.lay h hR hlen hM hp hob).put dst hv⟩

/-- A new row of memory as an object: its elements. -/
theorem memRel_new {w' : World} {cl : Bool} {c' : Ctx} {el : List PV} {arr : Array Value} {b sz cap : Nat} {E : TypeId} (hr : EGRel (CRel cl c' w') sz el arr) (hb : w'.heap[b]? = some (.cells arr E (0, 0))) (hcap : el.length ≤ cap) (hsz : cap * sz ≤ arr.size) :
    MemRel c' w' ⟨some b, 0, sz, cap⟩ el cl sz where
  osz := rfl
  nil h := by simp at h
  cap := hcap
  sz := hr.len
  row b' hb' := by
    simp only [Option.some.injEq] at hb'
    subst hb'
    refine ⟨arr, E, hb, by simpa using hsz, fun i j e cv he hj => ?_⟩
    obtain ⟨u, h1, h2, h3⟩ := hr.cell i j e cv he hj
    exact ⟨u, by simpa using h1, h2, h3⟩

theorem alloc_heap (w : World) (ob : Obj) : (w.alloc ob).heap[w.heap.size]? = some ob := by
  show (w.heap.push ob)[w.heap.size]? = _
  simp

theorem EGRel.one {R : PV → Value → Prop} {v : PV} {xs : Array Value} (hl : xs.size = v.cells.length) (h : ∀ (j : Nat) cv x, v.cells[j]? = some cv → xs[j]? = some x → R cv x ∧ x.oneCell' = true) : EGRel R v.cells.length [v] xs := by
  refine ⟨fun i e he => ?_, by simp [hl], fun i j e cv he hj => ?_⟩
  · cases i with
    | zero => simp at he; rw [he]
    | succ i => simp at he
  · cases i with
    | zero =>
      simp only [List.getElem?_cons_zero, Option.some.injEq] at he
      subst he
      have hj' : j < xs.size := hl ▸ getElem?_some_lt hj
      obtain ⟨h1, h2⟩ := h j cv xs[j] hj (by simp [hj'])
      exact ⟨xs[j], by simp [hj'], h2, h1⟩
    | succ i => simp at he

theorem lay_x {w' : World} (h : FrRel g c w fr a) {n : Nm} {k : Nat} (hR : Room c n k) (hM : More w w') {p : Option Place} (hp : Fits w w' p) {x : PX} {y : Operand} (hx : g.matchX x y = true) :
    VRel (c.lay n k p) w' (evX g.E fr.tmps x) (a.eval y) := (h.x hx).step (step_lay hM hR hp) h.wf

theorem fits_alloc (w : World) (ob : Obj) (o sz cap : Nat) : Fits w (w.alloc ob) (some ⟨some w.heap.size, o, sz, cap⟩) := by
  intro q b hq hb
  simp only [Option.some.injEq] at hq
  subst hq
  simp only [Option.some.injEq] at hb
  subst hb
  simp

theorem lay_box (h : FrRel g c w fr a) {n : Nm} {k : Nat} (hR : Room c n k) {s : Nat} {x : PX} {x' : Operand} {t : TypeId} {pv : PV} {ob : Ob} (ho : o.op = .box t x') (hx : g.matchX x x' = true)
    (hs : layE (evX g.E fr.tmps) n (.box s x) k = some (pv, ob)) : LayOK g c w n k ob pv ((execOp a.eval o).run g.P w) := by
  simp only [layE] at hs
  split at hs
  case isFalse => simp at hs
  rename_i hgood
  simp only [Option.some.injEq, Prod.mk.injEq] at hs
  obtain ⟨rfl, rfl⟩ := hs
  have hM := More.alloc w (.cells (a.eval x').cells t)
  have hp := fits_alloc w (.cells (a.eval x').cells t) 0 (evX g.E fr.tmps x).cells.length 1
  have hv := lay_x h hR hM hp hx
  obtain ⟨hl, hc⟩ := hv.cells hgood
  refine ⟨.pointer (some ⟨w.heap.size, 0, none⟩), _, _, ?_, hM, hp, ⟨Ctx.lay_gen_self _ _ _ _, fun q hq => ?_⟩, ?_⟩
  · simp [execOp, ho, Instr.box, newVar, newRow]
  · rw [Ctx.lay_obj_self] at hq
    simp only [Option.some.injEq] at hq
    subst hq
    exact memRel_new (cl := false) (EGRel.one hl hc) (alloc_heap _ _) (by simp) (by simp [hl])
  · have := VRel.ptr (c := c.lay n k (some ⟨some w.heap.size, 0, (evX g.E fr.tmps x).cells.length, 1⟩)) (w := w.alloc (.cells (a.eval x').cells t)) n k 0 0 _ w.heap.size (by rw [Ctx.lay_gen_self]; exact Nat.le_refl _) (Ctx.lay_obj_self _ _ _ _) rfl
    simpa using this

theorem lay_alloc (_h : FrRel g c w fr a) {n : Nm} {k : Nat} (_hR : Room c n k) {s : Nat} {z : PV} {t : TypeId} {i : TypeInfo} {zv : Value} {pv : PV} {ob : Ob} (ho : o.op = .alloc t) (hi : g.P.info? t = some i) (hz : i.zero = some zv) (hzc : constZ z zv.cells = true)
    (hs : layE (evX g.E fr.tmps) n (.alloc s z) k = some (pv, ob)) : LayOK g c w n k ob pv ((execOp a.eval o).run g.P w) := by
  simp only [layE, Option.some.injEq, Prod.mk.injEq] at hs
  obtain ⟨rfl, rfl⟩ := hs
  have hM := More.alloc w (.cells zv.cells t)
  have hp := fits_alloc w (.cells zv.cells t) 0 z.cells.length 1
  obtain ⟨hl, h1, h2⟩ := constZ_spec hzc (imm := c.imm) (w := w.alloc (.cells zv.cells t))
  refine ⟨.pointer (some ⟨w.heap.size, 0, none⟩), _, _, ?_, hM, hp, ⟨Ctx.lay_gen_self _ _ _ _, fun q hq => ?_⟩, ?_⟩
  · simp [execOp, ho, Instr.alloc, zeroValue, typeInfo, hi, hz, newVar, newRow]
  · rw [Ctx.lay_obj_self] at hq
    simp only [Option.some.injEq] at hq
    subst hq
    exact memRel_new (cl := false) (EGRel.one hl.symm fun j cv x hcv hx => ⟨.i _ _ (h2 j cv x hcv hx), h1 j x hx⟩) (alloc_heap _ _) (by simp) (by simp [hl])
  · have := VRel.ptr (c := c.lay n k (some ⟨some w.heap.size, 0, z.cells.length, 1⟩)) (w := w.alloc (.cells zv.cells t)) n k 0 0 _ w.heap.size (by rw [Ctx.lay_gen_self]; exact Nat.le_refl _) (Ctx.lay_obj_self _ _ _ _) rfl
    simpa using this

theorem lay_vec (_h : FrRel g c w fr a) {n : Nm} {k : Nat} (_hR : Room c n k) {s sz : Nat} {cl : Bool} {pv : PV} {ob : Ob} (ho : o.op = .assign (.const (.slice none 0 0)) ∨ o.op = .move (.const (.slice none 0 0)))
    (hs : layE (evX g.E fr.tmps) n (.vec s cl sz) k = some (pv, ob)) : LayOK g c w n k ob pv ((execOp a.eval o).run g.P w) := by
  simp only [layE, Option.some.injEq, Prod.mk.injEq] at hs
  obtain ⟨rfl, rfl⟩ := hs
  refine ⟨.slice none 0 0, w, ⟨none, 0, sz, 0⟩, ?_, More.refl w, (fun q b hq hb => by simp only [Option.some.injEq] at hq; subst hq; simp at hb), ⟨Ctx.lay_gen_self _ _ _ _, fun q hq => ?_⟩, ?_⟩
  · rcases ho with ho | ho <;> simp [execOp, ho, Act.eval]
  · rw [Ctx.lay_obj_self] at hq
    simp only [Option.some.injEq] at hq
    subst hq
    exact ⟨rfl, fun _ => ⟨rfl, rfl⟩, Nat.le_refl _, fun i e he => by simp at he, fun b hb => by simp at hb⟩
  · exact .slNil _ _ _ (by rw [Ctx.lay_gen_self]; exact Nat.le_refl _) (Ctx.lay_obj_self _ _ _ _) rfl

end Go.VI
