/- Operations of VI's that compare, cut and build; those that lay memory that never changes. -/
import Derived.Test.YteodaifeknghaaaVi6
namespace Go.VI
variable {g : PG} {c : Ctx} {w : World} {fr fr' : Fr} {a : Act} {o : Oper} {callE : CallE} {yieldE : Nm → List PV → Heap → Option (PV × Heap)}

theorem ok_eq (h : FrRel g c w fr a) {neg : Bool} {sh : EqSh} {x y : PX} {x' y' : Operand} {t t' : TypeId} (ho : o.op = .binOp (if neg then .neq else .eql) t x' y' t') (hx : g.matchX x x' = true) (hy : g.matchX y y' = true)
    (hk : eqOK g.P sh t = true) (hdep : sh.depth ≤ 9999) (hg : g.P.eqGuardType g.P.depth t = false)
    (hs : stepOp g.E callE yieldE o.dst (.eq neg sh x y) fr = some fr') : OpOK g c w fr fr' a o.dst ((execOp a.eval o).run g.P w) := by
  have h1 := h.x hx
  have h2 := h.x hy
  simp only [stepOp] at hs
  split at hs <;> simp only [Option.some.injEq, reduceCtorEq] at hs
  rename_i b hb
  subst hs
  refine OpOK.value h _ (v := .bool (if neg then !b else b)) ?_ (.i _ _ (.bool _))
  unfold eqTop at hb
  split at hb
  · rename_i l cs ds ex ey
    rw [ex] at h1
    rw [ey] at h2
    obtain ⟨us, e1, l1, _, r1⟩ := h1.agg_inv
    obtain ⟨vs, e2, l2, _, r2⟩ := h2.agg_inv
    obtain ⟨d, hd⟩ := eqOK_und hk
    have ha : isA d = true := by rcases eqOK_p hk with ⟨fs, hu, _⟩ | ⟨n, e, i, hu, _⟩ <;> rw [hd] at hu <;> simp only [Option.some.injEq] at hu <;> subst hu <;> rfl
    have hq := run_eqSh (P := g.P) (c := c) (w := w) (.parts l) t 9999 cs ds (.agg us) (.agg vs) b hk hdep ⟨d, hd, by rw [if_pos ha]; exact ⟨us, rfl, l1, r1⟩⟩ ⟨d, hd, by rw [if_pos ha]; exact ⟨vs, rfl, l2, r2⟩⟩ (by simpa [eqSh] using hb)
    cases neg
    · simp [execOp, ho, e1, e2, run_eqGuard_agg _ _ _ _ _ _ _ hg, run_eql_struct, hq]
    · simp [execOp, ho, e1, e2, run_eqGuard_agg _ _ _ _ _ _ _ hg, run_neq_struct, hq]
  · rename_i p q ex ey
    rw [ex] at h1
    rw [ey] at h2
    have e1 := h1.bool_inv
    have e2 := h2.bool_inv
    simp only [Option.some.injEq] at hb
    have hu := eqOK_b hk
    have hgd : ∀ op, (eqGuard op t x' y' (.bool p) (.bool q)).run g.P w = .ok () w := by intro op; cases op <;> simp [eqGuard]
    cases neg
    · simp [execOp, ho, e1, e2, hgd, run_eql_bool w t p q hu, hb]
    · simp [execOp, ho, e1, e2, hgd, run_neq_bool w t p q hu, hb]
  · simp at hb

/-- Which kind of value is nil at a type? -/
def nilK (P : Program) (t : TypeId) (y : Value) (k : Nat) : Bool :=
  match P.underlying t, y, k with
  | some (.slice _), .slice none 0 0, 0 => true
  | some (.pointer _), .pointer none, 1 => true
  | some (.map _ _), .map none, 2 => true
  | some (.func _ _ _), .nilFunc, 3 => true
  | _, _, _ => false

section nils
variable {P : Program} {t : TypeId}
theorem eq_s1 {e : TypeId} (hu : P.underlying t = some (.slice e)) (x : Option Addr) (l n : Nat) : (Op.equal t (.slice x l n) (.slice none 0 0)).run P w = .ok x.isNone w := by
  have : ∀ d, (Op.equalIn (d + 1) t (.slice x l n) (.slice none 0 0)).run P w = .ok x.isNone w := fun d => by cases x <;> simp [Op.equalIn, run_underlying' P w hu]
  exact this 9999
theorem eq_s2 {e : TypeId} (hu : P.underlying t = some (.slice e)) (x : Option Addr) (l n : Nat) : (Op.equal t (.slice none 0 0) (.slice x l n)).run P w = .ok x.isNone w := by
  have : ∀ d, (Op.equalIn (d + 1) t (.slice none 0 0) (.slice x l n)).run P w = .ok x.isNone w := fun d => by cases x <;> simp [Op.equalIn, run_underlying' P w hu]
  exact this 9999
theorem eq_p1 {e : TypeId} (hu : P.underlying t = some (.pointer e)) (x : Option Addr) : (Op.equal t (.pointer x) (.pointer none)).run P w = .ok x.isNone w := by
  have : ∀ d, (Op.equalIn (d + 1) t (.pointer x) (.pointer none)).run P w = .ok x.isNone w := fun d => by cases x <;> simp [Op.equalIn, run_underlying' P w hu]
  exact this 9999
theorem eq_p2 {e : TypeId} (hu : P.underlying t = some (.pointer e)) (x : Option Addr) : (Op.equal t (.pointer none) (.pointer x)).run P w = .ok x.isNone w := by
  have : ∀ d, (Op.equalIn (d + 1) t (.pointer none) (.pointer x)).run P w = .ok x.isNone w := fun d => by cases x <;> simp [Op.equalIn, run_underlying' P w hu]
  exact this 9999
theorem eq_m {e1 e2 : TypeId} (hu : P.underlying t = some (.map e1 e2)) : (Op.equal t (.map none) (.map none)).run P w = .ok true w := by
  have : ∀ d, (Op.equalIn (d + 1) t (.map none) (.map none)).run P w = .ok true w := fun d => by simp [Op.equalIn, run_underlying' P w hu]
  exact this 9999
theorem eq_f0 {e1 e2 : Array TypeId} {e3 : Bool} (hu : P.underlying t = some (.func e1 e2 e3)) : (Op.equal t .nilFunc .nilFunc).run P w = .ok true w := by
  have : ∀ d, (Op.equalIn (d + 1) t .nilFunc .nilFunc).run P w = .ok true w := fun d => by simp [Op.equalIn, run_underlying' P w hu]
  exact this 9999
theorem eq_f1 {e1 e2 : Array TypeId} {e3 : Bool} (hu : P.underlying t = some (.func e1 e2 e3)) (p : Fn) (q r : Array Value) : (Op.equal t (.func p q r) .nilFunc).run P w = .ok false w := by
  have : ∀ d, (Op.equalIn (d + 1) t (.func p q r) .nilFunc).run P w = .ok false w := fun d => by simp [Op.equalIn, run_underlying' P w hu]
  exact this 9999
theorem eq_f2 {e1 e2 : Array TypeId} {e3 : Bool} (hu : P.underlying t = some (.func e1 e2 e3)) (p : Fn) (q r : Array Value) : (Op.equal t .nilFunc (.func p q r)).run P w = .ok false w := by
  have : ∀ d, (Op.equalIn (d + 1) t .nilFunc (.func p q r)).run P w = .ok false w := fun d => by simp [Op.equalIn, run_underlying' P w hu]
  exact this 9999
end nils

theorem run_isNil {P : Program} {t : TypeId} {y u : Value} {k : Nat} {v : PV} {b : Bool} (hk : nilK P t y k = true) (hv : VRel c w v u) (hb : isNil k v = some b) :
    (∀ op x z, (eqGuard op t x z u y).run P w = .ok () w) ∧ (∀ op x z, (eqGuard op t x z y u).run P w = .ok () w) ∧ (Op.equal t u y).run P w = .ok b w ∧ (Op.equal t y u).run P w = .ok b w ∧
    (binOp .eql t u y = do pure (.bool (← Op.equal t u y))) ∧ (binOp .neq t u y = do pure (.bool (!(← Op.equal t u y)))) ∧ (binOp .eql t y u = do pure (.bool (← Op.equal t y u))) ∧ (binOp .neq t y u = do pure (.bool (!(← Op.equal t y u)))) := by
  unfold nilK at hk
  split at hk <;> try (simp at hk; done)
  · rename_i e hu
    have key : (∃ l n, u = .slice none l n ∧ b = true) ∨ ∃ x l n, u = .slice (some x) l n ∧ b = false := by
      unfold isNil at hb
      split at hb <;> simp only [Option.some.injEq, reduceCtorEq] at hb <;> try omega
      · have := hv.vs_inv
        cases this with
        | vsNone => exact .inl ⟨_, _, rfl, hb.symm⟩
        | vs _ _ _ _ _ _ _ hc => exact absurd rfl hc
        | vsE _ _ hc => exact absurd rfl hc
      · have := hv.vs_inv
        cases this with
        | vsNone _ hc => exact absurd rfl hc
        | vsE => exact .inr ⟨_, _, _, rfl, hb.symm⟩
        | vs => exact .inr ⟨_, _, _, rfl, hb.symm⟩
      · have := hv.vs_inv
        cases this with
        | vs => exact .inr ⟨_, _, _, rfl, hb.symm⟩
    rcases key with ⟨l, n, rfl, rfl⟩ | ⟨x, l, n, rfl, rfl⟩
    · exact ⟨fun op x z => by cases op <;> simp [eqGuard], fun op x z => by cases op <;> simp [eqGuard], eq_s1 hu none l n, eq_s2 hu none l n, rfl, rfl, rfl, rfl⟩
    · exact ⟨fun op x z => by cases op <;> simp [eqGuard], fun op x z => by cases op <;> simp [eqGuard], eq_s1 hu (some x) l n, eq_s2 hu (some x) l n, rfl, rfl, rfl, rfl⟩
  · rename_i e hu
    have key : (u = .pointer none ∧ b = true) ∨ ∃ x, u = .pointer (some x) ∧ b = false := by
      unfold isNil at hb
      split at hb <;> simp only [Option.some.injEq, reduceCtorEq] at hb <;> try omega
      · cases hv with
        | i _ _ h => cases h; exact .inl ⟨rfl, hb.symm⟩
      · obtain ⟨b', o', e, _⟩ := cellsAt_ip hv.ip_inv
        exact .inr ⟨_, e, hb.symm⟩
    rcases key with ⟨rfl, rfl⟩ | ⟨x, rfl, rfl⟩
    · exact ⟨fun op x z => by cases op <;> simp [eqGuard], fun op x z => by cases op <;> simp [eqGuard], eq_p1 hu none, eq_p2 hu none, rfl, rfl, rfl, rfl⟩
    · exact ⟨fun op x z => by cases op <;> simp [eqGuard], fun op x z => by cases op <;> simp [eqGuard], eq_p1 hu (some x), eq_p2 hu (some x), rfl, rfl, rfl, rfl⟩
  · rename_i e1 e2 hu
    have key : u = .map none ∧ b = true := by
      unfold isNil at hb
      split at hb <;> simp only [Option.some.injEq, reduceCtorEq] at hb <;> try omega
      · cases hv with
        | i _ _ h => cases h; exact ⟨rfl, hb.symm⟩
    obtain ⟨rfl, rfl⟩ := key
    exact ⟨fun op x z => by cases op <;> simp [eqGuard], fun op x z => by cases op <;> simp [eqGuard], eq_m hu, eq_m hu, rfl, rfl, rfl, rfl⟩
  · rename_i e1 e2 e3 hu
    have key : (u = .nilFunc ∧ b = true) ∨ ∃ p q r, u = .func p q r ∧ b = false := by
      unfold isNil at hb
      split at hb <;> simp only [Option.some.injEq, reduceCtorEq] at hb <;> try omega
      · cases hv with
        | i _ _ h => cases h; exact .inl ⟨rfl, hb.symm⟩
      · obtain ⟨xs, ys, e, _⟩ := hv.fn_inv
        exact .inr ⟨_, _, _, e, hb.symm⟩
    rcases key with ⟨rfl, rfl⟩ | ⟨p, q, r, rfl, rfl⟩
    · exact ⟨fun op x z => by cases op <;> simp [eqGuard], fun op x z => by cases op <;> simp [eqGuard], eq_f0 hu, eq_f0 hu, rfl, rfl, rfl, rfl⟩
    · exact ⟨fun op x z => by cases op <;> simp [eqGuard], fun op x z => by cases op <;> simp [eqGuard], eq_f1 hu p q r, eq_f2 hu p q r, rfl, rfl, rfl, rfl⟩

theorem ok_eqnil (h : FrRel g c w fr a) {k : Nat} {neg : Bool} {x : PX} {x' : Operand} {y' : Value} {t t' : TypeId} (ho : o.op = .binOp (if neg then .neq else .eql) t x' (.const y') t' ∨ o.op = .binOp (if neg then .neq else .eql) t (.const y') x' t')
    (hk : nilK g.P t y' k = true) (hx : g.matchX x x' = true) (hs : stepOp g.E callE yieldE o.dst (.eqnil k neg x) fr = some fr') : OpOK g c w fr fr' a o.dst ((execOp a.eval o).run g.P w) := by
  have h1 := h.x hx
  simp only [stepOp] at hs
  split at hs <;> simp only [Option.some.injEq, reduceCtorEq] at hs
  rename_i b hb
  subst hs
  refine OpOK.value h _ (v := .bool (if neg then !b else b)) ?_ (.i _ _ (.bool _))
  obtain ⟨g1, g2, q1, q2, e1, e2, e3, e4⟩ := run_isNil hk h1 hb
  have ec : a.eval (.const y') = y' := rfl
  rcases ho with ho | ho <;> cases neg
  · simp [execOp, ho, ec, g1, e1, q1]
  · simp [execOp, ho, ec, g1, e2, q1]
  · simp [execOp, ho, ec, g2, e3, q2]
  · simp [execOp, ho, ec, g2, e4, q2]

/-- Memory has been laid, nothing else: what is new may be memory that never changes. -/
structure Ext (c : Ctx) (w : World) (c' : Ctx) (w' : World) : Prop where
  size : w.heap.size ≤ w'.heap.size
  os : w'.os = w.os
  out : w'.output = w.output
  gen : c'.gen = c.gen
  obj : c'.obj = c.obj
  imm : ∀ b, c.imm b → c'.imm b
  immNew : ∀ b, c'.imm b → c.imm b ∨ (w.heap.size ≤ b ∧ b < w'.heap.size)
  same : ∀ b, b < w.heap.size → w'.heap[b]? = w.heap[b]?

theorem Ext.step {c c' : Ctx} {w w' : World} (h : Ext c w c' w') : Step N0 c w c' w' where
  size := h.size
  os := h.os
  out := h.out
  gen n := by rw [h.gen]; exact Nat.le_refl _
  obj n _ _ := by rw [h.obj]
  phan _ hn := hn.elim
  imm := h.imm
  immNew b hb := (h.immNew b hb).imp id fun x => .inl x.1
  objNew n p b h1 h2 := .inr ⟨n, p, by rw [← h.obj]; exact h1, h2⟩
  frame b hb _ := h.same b hb

theorem Ext.wf {G : Nat → Option PV} {c c' : Ctx} {w w' : World} (h : Ext c w c' w') (hw : WF G c w) : WF G c' w' where
  lt n p b h1 h2 := Nat.lt_of_lt_of_le (hw.lt n p b (h.obj ▸ h1) h2) h.size
  inj n m p q b h1 h2 h3 h4 := hw.inj n m p q b (h.obj ▸ h1) (h.obj ▸ h2) h3 h4
  apart n p b h1 h2 h3 := by
    have hlt := hw.lt n p b (h.obj ▸ h1) h2
    rcases h.immNew b h3 with h4 | h4
    · exact hw.apart n p b (h.obj ▸ h1) h2 h4
    · omega
  ilt b hb := by
    rcases h.immNew b hb with h4 | h4
    · exact Nat.lt_of_lt_of_le (hw.ilt b h4) h.size
    · exact h4.2
  glob i v hi := (hw.glob i v hi).step h.step hw

theorem Ext.v {G : Nat → Option PV} {c c' : Ctx} {w w' : World} (h : Ext c w c' w') (hw : WF G c w) {v : PV} {u : Value} (hv : VRel c w v u) : VRel c' w' v u :=
  hv.step h.step hw

theorem Ext.mem {G : Nat → Option PV} {c c' : Ctx} {w w' : World} (h : Ext c w c' w') (hw : WF G c w) {n : Nm} {p : Place} (hp : c.obj n = some p) {el : List PV} {cl : Bool} {osz : Nat} (hm : MemRel c w p el cl osz) : MemRel c' w' p el cl osz where
  osz := hm.osz
  nil := hm.nil
  cap := hm.cap
  sz := hm.sz
  row b hb := by
    obtain ⟨arr, E, h1, h2, h3⟩ := hm.row b hb
    refine ⟨arr, E, (h.same b (hw.lt n p b hp hb)).trans h1, h2, fun i j e cv he hj => ?_⟩
    obtain ⟨u, h4, h5, h6⟩ := h3 i j e cv he hj
    refine ⟨u, h4, h5, ?_⟩
    cases cl
    · exact h.v hw h6
    · exact h6.step h.step hw

theorem DefRel.step {G : Nat → Option PV} {N : Nm → Prop} {c c' : Ctx} {w w' : World} (h : Step N c w c' w') (hw : WF G c w) (hlt : ∀ r : Nat, (∃ o, w.heap[r]? = some o) → r < w.heap.size) {lo : Nat} {ds : List (Option (Nat × List PV))} {xs : List Deferred} (hd : DefRel lo c w ds xs) : DefRel lo c' w' ds xs := by
  induction hd with
  | nil => exact .nil
  | cons d x ds xs hx _ ih =>
    obtain ⟨caps, h1, h2, h3⟩ := hx.ex
    exact .cons d x ds xs ⟨caps, h1, h2, fun i v u hv hu => (h3 i v u hv hu).step h hw⟩ ih
  | mark r ds xs hlo hr ho hi hx _ ih =>
    have hb : r < w.heap.size := hlt r ⟨_, hr⟩
    refine .mark r ds xs hlo ((h.frame r hb fun n p hp => ho n p hp).trans hr) (fun n p hp he => ?_) (fun him => ?_) hx ih
    case refine_2 =>
      rcases h.immNew r him with h3 | h3 | ⟨m, q, h3, h4⟩
      · exact hi h3
      · omega
      · exact ho m q h3 h4
    rcases h.objNew n p r hp he with h3 | ⟨m, q, h3, h4⟩
    · omega
    · exact ho m q h3 h4

theorem heap_lt {w : World} (r : Nat) : (∃ o, w.heap[r]? = some o) → r < w.heap.size := fun ⟨_, h⟩ => (Array.getElem?_eq_some_iff.1 h).1

theorem Ext.hrel {G : Nat → Option PV} {MC : PC → Code → Prop} {c c' : Ctx} {w w' : World} (h : Ext c w c' w') (hw : WF G c w) {hp : Heap} (hh : HRel MC c hp w) : HRel MC c' hp w' := by
  intro n ob hg
  have := hh n ob hg
  cases ob with
  | mem el gg cl osz =>
    obtain ⟨h1, h2⟩ := this
    exact ⟨by rw [h.gen]; exact h1, fun p hp => h.mem hw (h.obj ▸ hp) (h2 p (h.obj ▸ hp))⟩
  | map es clock gg =>
    obtain ⟨h1, h2⟩ := this
    refine ⟨by rw [h.gen]; exact h1, fun p hp => ?_⟩
    obtain ⟨b, arr, h3, h4, h5, h6⟩ := h2 p (h.obj ▸ hp)
    refine ⟨b, arr, h3, (h.same b (hw.lt n p b (h.obj ▸ hp) h3)).trans h4, h5, fun i e x he hx => ?_⟩
    obtain ⟨h8, h9⟩ := h6 i e x he hx
    exact ⟨h8.step h.step hw, h9.step h.step hw⟩
  | loop tmps params assign body jump gg =>
    obtain ⟨h1, h2⟩ := this
    refine ⟨by rw [h.gen]; exact h1, fun p hp => ?_⟩
    obtain ⟨b, h3, l, h4, h5, h6, h7, h8⟩ := h2 p (h.obj ▸ hp)
    exact ⟨b, h3, l, (h.same b (hw.lt n p b (h.obj ▸ hp) h3)).trans h4, h5, h6, fun i => h.v hw (h7 i), h8⟩
  | dead gg => exact (congrFun h.gen n).trans this

theorem Ext.frRel {c' : Ctx} {w' : World} (h : Ext c w c' w') (hf : FrRel g c w fr a) : FrRel g c' w' fr a :=
  ⟨hf.size, fun i => h.v hf.wf (hf.tmps i), h.hrel hf.wf hf.heap, h.wf hf.wf, DefRel.step h.step hf.wf heap_lt hf.defs, fun n hn => by rw [h.gen, h.obj]; exact hf.hn n hn⟩

/-- An operation that lays memory and makes a value. -/
theorem OpOK.ext {c' : Ctx} {w' : World} (h : FrRel g c w fr a) (he : Ext c w c' w') (dst : Option Nat) {pv : PV} {v : Value} {r : Result Next} (hr : r = .ok (.value v) w') (hv : VRel c' w' pv v) :
    OpOK g c w fr (fr.put dst pv) a dst r := ⟨v, w', c', .inl hr, he.step, (he.frRel h).put dst hv⟩

def Ctx.addImm (c : Ctx) (b : Nat) : Ctx := { c with imm := fun x => c.imm x ∨ x = b }

theorem Ext.alloc (c : Ctx) (w : World) (ob : Obj) : Ext c w (c.addImm w.heap.size) (w.alloc ob) where
  size := by simp
  os := rfl
  out := rfl
  gen := rfl
  obj := rfl
  imm b hb := .inl hb
  immNew b hb := hb.imp id fun e => by subst e; simp
  same b hb := by
    show (w.heap.push ob)[b]? = _
    rw [Array.getElem?_push_lt hb]
    simp [hb]

theorem low_cells {v : PV} (h : v.low 0 = true) {j : Nat} {cv : PV} (hj : v.cells[j]? = some cv) : cv.low 0 = true := by
  cases v with
  | agg cs => exact lowL_get h hj
  | _ => cases j <;> simp [PV.cells] at hj; exact hj ▸ h

theorem alloc_cell (w : World) (arr : Array Value) (E : TypeId) (o : Nat) : (w.alloc (.cells arr E)).cell? ⟨w.heap.size, o, none⟩ = arr[o]? := by
  simp

theorem ok_boxi (h : FrRel g c w fr a) {x : PX} {x' : Operand} {t : TypeId} (ho : o.op = .box t x') (hx : g.matchX x x' = true)
    (hs : stepOp g.E callE yieldE o.dst (.boxi x) fr = some fr') : OpOK g c w fr fr' a o.dst ((execOp a.eval o).run g.P w) := by
  have h1 := h.x hx
  simp only [stepOp] at hs
  split at hs <;> simp only [Option.some.injEq, reduceCtorEq] at hs
  rename_i hp
  obtain ⟨hp, hgood⟩ := hp
  subst hs
  have hE := Ext.alloc c w (.cells (a.eval x').cells t)
  obtain ⟨hl, hc⟩ := h1.cells hgood
  refine OpOK.ext h hE _ (v := .pointer (some ⟨w.heap.size, 0, none⟩)) ?_ (.i _ _ ?_)
  · simp [execOp, ho, Instr.box, newVar, newRow]
  · refine ip_of_cellsAt (fun j cv hj => ?_) fun j hj => .inr rfl
    have hj' : j < (a.eval x').cells.size := hl ▸ getElem?_some_lt hj
    obtain ⟨h2, h3⟩ := hc j cv _ hj (Array.getElem?_eq_getElem hj')
    refine ⟨_, by rw [Nat.zero_add, alloc_cell]; exact Array.getElem?_eq_getElem hj', h3, ?_⟩
    exact (h2.pure (low_cells hp hj)).step hE.step h.wf

end Go.VI
