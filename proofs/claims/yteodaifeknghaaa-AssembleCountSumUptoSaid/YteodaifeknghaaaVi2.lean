/- What an operation of VI's says of the machine's operation: those that only make a value. -/
import Derived.Test.YteodaifeknghaaaVi1
namespace Go.VI

theorem getElem?_some_lt {α : Type} {l : List α} {i : Nat} {x : α} (h : l[i]? = some x) : i < l.length := (List.getElem?_eq_some_iff.1 h).1
theorem agetElem?_some_lt {α : Type} {l : Array α} {i : Nat} {x : α} (h : l[i]? = some x) : i < l.size := (Array.getElem?_eq_some_iff.1 h).1

theorem hget_hset_ne {h : Heap} {n m : Nm} {o : Ob} (hne : m ≠ n) : hget (hset h n o) m = hget h m := by
  unfold hget hset
  simp only [List.getElem?_modify]
  cases hm : h[m.1]? with
  | none => rfl
  | some t =>
    by_cases h1 : n.1 = m.1
    · have h2 : n.2 ≠ m.2 := fun e => hne (Prod.ext h1.symm e.symm)
      simp [h1, List.getElem?_set_ne h2]
    · simp [h1]

theorem hget_hset_self {h : Heap} {n : Nm} {o : Ob} (hl : n.2 < (h.getD n.1 []).length) : hget (hset h n o) n = some o := by
  unfold hget hset
  simp only [List.getElem?_modify]
  cases hm : h[n.1]? with
  | none => simp [List.getD, hm] at hl
  | some t =>
    have : n.2 < t.length := by simpa [List.getD, hm] using hl
    simp [List.getElem?_set_self this]

theorem hget_lt {h : Heap} {n : Nm} {o : Ob} (hg : hget h n = some o) : n.2 < (h.getD n.1 []).length := by
  unfold hget at hg
  cases hm : h[n.1]? with
  | none => simp [hm] at hg
  | some t =>
    simp only [hm, Option.bind_some] at hg
    cases hs : t[n.2]? with
    | none => simp [hs] at hg
    | some x => simpa [List.getD, hm] using getElem?_some_lt hs

/-- Values in lists, one by one. -/
def LRel (c : Ctx) (w : World) (l : List PV) (a : Array Value) : Prop := l.length = a.size ∧ ∀ (i : Nat) v u, l[i]? = some v → a[i]? = some u → VRel c w v u

structure DRel (c : Ctx) (w : World) (d : Nat × List PV) (x : Deferred) : Prop where
  ex : ∃ caps, x.target = .fn (.func d.1) caps ∧ LRel c w d.2 (x.args ++ caps)

/-- Deferred calls; 'none': the mark of a range over a function, laid by this call ('lo': how much memory there was when it began). -/
inductive DefRel (lo : Nat) (c : Ctx) (w : World) : List (Option (Nat × List PV)) → List Deferred → Prop
  | nil : DefRel lo c w [] []
  | cons (d : Nat × List PV) (x : Deferred) (ds : List (Option (Nat × List PV))) (xs : List Deferred) (h : DRel c w d x) (t : DefRel lo c w ds xs) : DefRel lo c w (some d :: ds) (x :: xs)
  | mark (r : Nat) (ds : List (Option (Nat × List PV))) (xs : List Deferred) (hlo : lo ≤ r) (hr : w.heap[r]? = some (.deferred (some []))) (ho : ∀ n p, c.obj n = some p → p.blk ≠ some r) (hi : ¬ c.imm r)
      (hx : ∀ d ∈ xs, d.target ≠ .collected r) (t : DefRel lo c w ds xs) : DefRel lo c w (none :: ds) ({ target := .collected r, args := #[] } :: xs)

structure PG where
  P : Program
  E : Env
  GL : Nat → Bool
  MC : PC → Code → Prop
  lo : Nat

def PG.G (g : PG) : Nat → Option PV := fun i => if g.GL i then some (g.E.glob i) else none

/-- A frame of VI's and the machine's. -/
structure FrRel (g : PG) (c : Ctx) (w : World) (fr : Fr) (a : Act) : Prop where
  size : fr.tmps.length = a.tmps.size
  tmps : ∀ i, VRel c w (fr.tmps.getD i .junk) (a.tmps.getD i undef)
  heap : HRel g.MC c fr.heap w
  wf : WF g.G c w
  defs : DefRel g.lo c w fr.defers a.defers
  hn : ∀ n, hget fr.heap n = none → c.gen n = 0 ∧ c.obj n = none

def OpOK (g : PG) (c : Ctx) (w : World) (_fr : Fr) (fr' : Fr) (a : Act) (dst : Option Tmp) (r : Result Next) : Prop :=
  ∃ (v : Value) (w' : World) (c' : Ctx), (r = .ok (.value v) w' ∨ (r = .ok .skip w' ∧ v = undef)) ∧ Step N0 c w c' w' ∧ FrRel g c' w' fr' (a.put dst v)

theorem getD_set (l : List PV) (a : Array Value) (d : Nat) (pv : PV) (v : Value) (hs : l.length = a.size) (i : Nat) :
    ((l.set d pv).getD i .junk = pv ∧ (a.setIfInBounds d v).getD i undef = v) ∨ ((l.set d pv).getD i .junk = l.getD i .junk ∧ (a.setIfInBounds d v).getD i undef = a.getD i undef) := by
  by_cases hd : d = i
  · subst hd
    by_cases hl : d < l.length
    · left
      constructor
      · simp [List.getD, List.getElem?_set_self hl]
      · have : d < a.size := hs ▸ hl
        simp [Array.getD_eq_getD_getElem?, Array.getElem?_setIfInBounds_self_of_lt this]
    · right
      have h2 : ¬ d < a.size := hs ▸ hl
      constructor
      · rw [List.set_eq_of_length_le (by omega)]
      · simp [Array.setIfInBounds, h2]
  · right
    constructor
    · simp [List.getD, List.getElem?_set_ne hd]
    · simp [Array.getD_eq_getD_getElem?, Array.getElem?_setIfInBounds_ne hd]

theorem FrRel.put {g : PG} {c : Ctx} {w : World} {fr : Fr} {a : Act} (h : FrRel g c w fr a) (dst : Option Nat) {pv : PV} {v : Value} (hv : VRel c w pv v) : FrRel g c w (fr.put dst pv) (a.put dst v) := by
  cases dst with
  | none => exact h
  | some d =>
    refine ⟨by simp [Fr.put, Act.put, h.size], fun i => ?_, h.heap, h.wf, h.defs, h.hn⟩
    rcases getD_set fr.tmps a.tmps d pv v h.size i with ⟨h1, h2⟩ | ⟨h1, h2⟩
    · show VRel c w ((fr.tmps.set d pv).getD i .junk) ((a.tmps.setIfInBounds d v).getD i undef)
      rw [h1, h2]; exact hv
    · show VRel c w ((fr.tmps.set d pv).getD i .junk) ((a.tmps.setIfInBounds d v).getD i undef)
      rw [h1, h2]; exact h.tmps i

/-- An operation that only makes a value. -/
theorem OpOK.value {g : PG} {c : Ctx} {w : World} {fr : Fr} {a : Act} (h : FrRel g c w fr a) (dst : Option Nat) {pv : PV} {v : Value} {r : Result Next} (hr : r = .ok (.value v) w) (hv : VRel c w pv v) :
    OpOK g c w fr (fr.put dst pv) a dst r := ⟨v, w, c, .inl hr, Step.refl _ _, h.put dst hv⟩

/- ## Operands -/
mutual
def constOK : PV → Value → Bool
  | .bool a, .bool b => a == b
  | .int k a, .int k' b => decide (k = k') && a == b
  | .str s, .string t => s == t.data.toList
  | .vs .nil [], .slice none 0 0 => true
  | .nilp, .pointer none => true
  | .nilmap, .map none => true
  | .nilfn, .nilFunc => true
  | .nili, .nilIface => true
  | .agg cs, .agg us => constOKL cs us.toList
  | .tuple cs, .tuple us => constOKT cs us.toList
  | _, _ => false
def constOKL : List PV → List Value → Bool
  | [], [] => true
  | c :: r, u :: s => constOK c u && u.oneCell' && constOKL r s
  | _, _ => false
def constOKT : List PV → List Value → Bool
  | [], [] => true
  | c :: r, u :: s => constOK c u && constOKT r s
  | _, _ => false
end

mutual
theorem constOK_rel (imm : Nat → Prop) (w : World) (v : PV) (u : Value) (h : constOK v u = true) : IRel imm w v u := by
  unfold constOK at h
  split at h
  · simp at h; subst h; exact .bool _
  · simp at h; obtain ⟨rfl, rfl⟩ := h; exact .int _ _
  · simp at h; subst h; exact .str _
  · exact .vsNone _ (by simp)
  · exact .nilp
  · exact .nilmap
  · exact .nilfn
  · exact .nili
  · rename_i cs us
    have := constOKL_rel imm w cs us.toList h
    exact .agg cs us (by simpa using this.1) (fun i u hu => this.2.1 i u (by simpa using hu)) (fun i c u hc hu => this.2.2 i c u hc (by simpa using hu))
  · rename_i cs us
    have := constOKT_rel imm w cs us.toList h
    exact .tuple cs us (by simpa using this.1) (fun i c u hc hu => this.2 i c u hc (by simpa using hu))
  · simp at h
  termination_by SizeOf.sizeOf v
theorem constOKL_rel (imm : Nat → Prop) (w : World) (cs : List PV) (us : List Value) (h : constOKL cs us = true) :
    cs.length = us.length ∧ (∀ (i : Nat) u, us[i]? = some u → u.oneCell' = true) ∧ ∀ (i : Nat) c u, cs[i]? = some c → us[i]? = some u → IRel imm w c u := by
  match cs, us, h with
  | [], [], _ => exact ⟨rfl, fun i u h => by simp at h, fun i c u h => by simp at h⟩
  | c :: r, u :: s, h =>
    simp only [constOKL, Bool.and_eq_true] at h
    have ih := constOKL_rel imm w r s h.2
    refine ⟨by simp [ih.1], fun i x hx => ?_, fun i x y hx hy => ?_⟩
    · cases i with
      | zero => simp at hx; exact hx ▸ h.1.2
      | succ i => exact ih.2.1 i x (by simpa using hx)
    · cases i with
      | zero => simp at hx hy; exact hx ▸ hy ▸ constOK_rel imm w c u h.1.1
      | succ i => exact ih.2.2 i x y (by simpa using hx) (by simpa using hy)
  | [], _ :: _, h => simp [constOKL] at h
  | _ :: _, [], h => simp [constOKL] at h
  termination_by SizeOf.sizeOf cs
theorem constOKT_rel (imm : Nat → Prop) (w : World) (cs : List PV) (us : List Value) (h : constOKT cs us = true) :
    cs.length = us.length ∧ ∀ (i : Nat) c u, cs[i]? = some c → us[i]? = some u → IRel imm w c u := by
  match cs, us, h with
  | [], [], _ => exact ⟨rfl, fun i c u h => by simp at h⟩
  | c :: r, u :: s, h =>
    simp only [constOKT, Bool.and_eq_true] at h
    have ih := constOKT_rel imm w r s h.2
    refine ⟨by simp [ih.1], fun i x y hx hy => ?_⟩
    · cases i with
      | zero => simp at hx hy; exact hx ▸ hy ▸ constOK_rel imm w c u h.1
      | succ i => exact ih.2 i x y (by simpa using hx) (by simpa using hy)
  | [], _ :: _, h => simp [constOKT] at h
  | _ :: _, [], h => simp [constOKT] at h
  termination_by SizeOf.sizeOf cs
end

def PG.matchX (g : PG) : PX → Operand → Bool
  | .t i, .tmp j => i == j
  | .c v, .const u => constOK v u
  | .c (.fn f [] []), .func k => f == k
  | .g i, .global j => i == j && g.GL i
  | _, _ => false

theorem FrRel.x {g : PG} {c : Ctx} {w : World} {fr : Fr} {a : Act} (h : FrRel g c w fr a) {x : PX} {o : Operand} (hm : g.matchX x o = true) : VRel c w (evX g.E fr.tmps x) (a.eval o) := by
  cases x with
  | t i =>
    cases o <;> simp [PG.matchX] at hm
    subst hm; exact h.tmps _
  | c v =>
    cases o with
    | const u => exact .i _ _ (constOK_rel _ _ v u (by simpa [PG.matchX] using hm))
    | func k =>
      cases v with
      | fn f p q =>
        cases p <;> cases q <;> simp [PG.matchX] at hm
        subst hm
        exact .i _ _ (.fn f [] [] #[] #[] rfl rfl (fun i c u hc => by simp at hc) (fun i c u hc => by simp at hc))
      | _ => simp [PG.matchX] at hm
    | tmp j => cases v <;> simp [PG.matchX] at hm
    | global j => cases v <;> simp [PG.matchX] at hm
  | g i =>
    cases o <;> simp [PG.matchX] at hm
    obtain ⟨rfl, hg⟩ := hm
    exact .i _ _ (h.wf.glob i _ (by simp [PG.G, hg, evX]))

def PG.matchXs (g : PG) : List PX → List Operand → Bool
  | [], [] => true
  | x :: r, o :: s => g.matchX x o && g.matchXs r s
  | _, _ => false

theorem FrRel.xs {g : PG} {c : Ctx} {w : World} {fr : Fr} {a : Act} (h : FrRel g c w fr a) : ∀ {xs : List PX} {os : List Operand}, g.matchXs xs os = true →
    xs.length = os.length ∧ ∀ (i : Nat) v u, (xs.map (evX g.E fr.tmps))[i]? = some v → (os.map a.eval)[i]? = some u → VRel c w v u
  | [], [], _ => ⟨rfl, fun i v u hv => by simp at hv⟩
  | x :: r, o :: s, hm => by
    simp only [PG.matchXs, Bool.and_eq_true] at hm
    have ih := h.xs hm.2
    refine ⟨by simp [ih.1], fun i v u hv hu => ?_⟩
    cases i with
    | zero => simp at hv hu; exact hv ▸ hu ▸ h.x hm.1
    | succ i => exact ih.2 i v u (by simpa using hv) (by simpa using hu)
  | [], _ :: _, hm => by simp [PG.matchXs] at hm
  | _ :: _, [], hm => by simp [PG.matchXs] at hm

/- ## What a value's form tells of the machine's value -/
section forms
variable {c : Ctx} {w : World}

theorem VRel.bool_inv {b : Bool} {u : Value} (h : VRel c w (.bool b) u) : u = .bool b := by
  cases h with
  | i _ _ h => cases h; rfl
theorem VRel.int_inv {k : IntKind} {n : Int} {u : Value} (h : VRel c w (.int k n) u) : u = .int k n := by
  cases h with
  | i _ _ h => cases h; rfl
theorem VRel.str_inv {s : List UInt8} {u : Value} (h : VRel c w (.str s) u) : ∃ t : ByteArray, u = .string t ∧ t.data.toList = s := by
  cases h with
  | i _ _ h => cases h; exact ⟨_, rfl, rfl⟩
theorem VRel.agg_inv {cs : List PV} {u : Value} (h : VRel c w (.agg cs) u) : ∃ us : Array Value, u = .agg us ∧ cs.length = us.size ∧ (∀ (i : Nat) x, us[i]? = some x → x.oneCell' = true) ∧
    ∀ (i : Nat) cv x, cs[i]? = some cv → us[i]? = some x → VRel c w cv x := by
  cases h with
  | i _ _ h => cases h with
    | agg cs us hl h1 h => exact ⟨us, rfl, hl, h1, fun i cv x a b => .i _ _ (h i cv x a b)⟩
  | agg cs us hl h1 h => exact ⟨us, rfl, hl, h1, h⟩
theorem VRel.tuple_inv {cs : List PV} {u : Value} (h : VRel c w (.tuple cs) u) : ∃ us : Array Value, u = .tuple us ∧ cs.length = us.size ∧
    ∀ (i : Nat) cv x, cs[i]? = some cv → us[i]? = some x → VRel c w cv x := by
  cases h with
  | i _ _ h => cases h with
    | tuple cs us hl h => exact ⟨us, rfl, hl, fun i cv x a b => .i _ _ (h i cv x a b)⟩
  | tuple cs us hl h => exact ⟨us, rfl, hl, h⟩
theorem VRel.fn_inv {f : Nat} {p q : List PV} {u : Value} (h : VRel c w (.fn f p q) u) : ∃ xs ys : Array Value, u = .func (.func f) xs ys ∧ LRel c w p xs ∧ LRel c w q ys := by
  cases h with
  | i _ _ h => cases h with
    | fn f a b xs ys ha hb h1 h2 => exact ⟨xs, ys, rfl, ⟨ha, fun i cv x a b => .i _ _ (h1 i cv x a b)⟩, ⟨hb, fun i cv x a b => .i _ _ (h2 i cv x a b)⟩⟩
  | fn f a b xs ys ha hb h1 h2 => exact ⟨xs, ys, rfl, ⟨ha, h1⟩, ⟨hb, h2⟩⟩
theorem VRel.vs_inv {f : Fl} {L : List PV} {u : Value} (h : VRel c w (.vs f L) u) : IRel c.imm w (.vs f L) u := by
  cases h with
  | i _ _ h => exact h
theorem VRel.ip_inv {cs : List PV} {u : Value} (h : VRel c w (.ip cs) u) : IRel c.imm w (.ip cs) u := by
  cases h with
  | i _ _ h => exact h

/-- A value's cells. -/
theorem VRel.cells {v : PV} {u : Value} (h : VRel c w v u) (hg : v.good = true) :
    u.cells.size = v.cells.length ∧ ∀ (j : Nat) cv x, v.cells[j]? = some cv → u.cells[j]? = some x → VRel c w cv x ∧ x.oneCell' = true := by
  have one : ∀ {v u}, VRel c w v u → v.cells = [v] → u.cells = #[u] → u.oneCell' = true →
      u.cells.size = v.cells.length ∧ ∀ (j : Nat) cv x, v.cells[j]? = some cv → u.cells[j]? = some x → VRel c w cv x ∧ x.oneCell' = true := by
    intro v u h hv hu h1
    rw [hv, hu]
    refine ⟨rfl, fun j cv x hc hx => ?_⟩
    cases j with
    | zero => simp at hc hx; exact hc ▸ hx ▸ ⟨h, h1⟩
    | succ j => simp at hc
  have stale : ∀ {v u}, VRel c w v u → v.cells = [v] → u.oneCell' = true →
      u.cells.size = v.cells.length ∧ ∀ (j : Nat) cv x, v.cells[j]? = some cv → u.cells[j]? = some x → VRel c w cv x ∧ x.oneCell' = true := by
    intro v u h hv h1
    exact one h hv (by cases u <;> first | rfl | simp [Value.oneCell'] at h1) h1
  have hh := h
  cases h with
  | i _ _ h => cases h with
    | junk => simp [PV.good] at hg
    | agg cs us hl h1 h => exact ⟨hl.symm, fun j cv x a b => ⟨.i _ _ (h j cv x a b), h1 j x b⟩⟩
    | tuple => simp [PV.good] at hg
    | _ => exact one hh rfl rfl rfl
  | agg cs us hl h1 h => exact ⟨hl.symm, fun j cv x a b => ⟨h j cv x a b, h1 j x b⟩⟩
  | tuple => simp [PV.good] at hg
  | fn => exact one hh rfl rfl rfl
  | slStale _ _ _ _ _ _ h1 => exact stale hh rfl h1
  | ptrStale _ _ _ _ _ _ h1 => exact stale hh rfl h1
  | mapStale _ _ _ _ h1 => exact stale hh rfl h1
  | yldStale _ _ _ _ h1 => exact stale hh rfl h1
  | _ => exact one hh rfl rfl rfl

theorem VRel.one {v : PV} {u : Value} (h : VRel c w v u) (hg : v.fits none = true) : u.oneCell' = true := by
  have h1 : v.good = true := by cases v <;> simp_all [PV.fits, PV.good]
  have h2 : v.cells = [v] := by cases v <;> simp_all [PV.fits, PV.cells]
  have := h.cells h1
  rw [h2] at this
  cases hu : u with
  | agg us =>
    cases h with
    | i _ _ h => cases h <;> simp_all [PV.fits, PV.good]
    | agg => simp [PV.fits] at hg
    | slStale _ _ _ _ _ _ h1 => exact hu ▸ h1
    | ptrStale _ _ _ _ _ _ h1 => exact hu ▸ h1
    | mapStale _ _ _ _ h1 => exact hu ▸ h1
    | yldStale _ _ _ _ h1 => exact hu ▸ h1
    | _ => simp at hu
  | tuple us =>
    cases h with
    | i _ _ h => cases h <;> simp_all [PV.fits, PV.good]
    | tuple => simp [PV.fits, PV.good] at hg
    | slStale _ _ _ _ _ _ h1 => exact hu ▸ h1
    | ptrStale _ _ _ _ _ _ h1 => exact hu ▸ h1
    | mapStale _ _ _ _ h1 => exact hu ▸ h1
    | yldStale _ _ _ _ h1 => exact hu ▸ h1
    | _ => simp at hu
  | _ => rfl
end forms

end Go.VI
