/- What the values of VI say of the machine's values and memory, and that it lasts as the memory grows. -/
import Derived.Test.YteodaifeknghaaaVi0
namespace Go.VI

/-- Where an array or a variable of the call's own lies: its block (none: a nil slice's), its first cell, an element's cells, how many elements fit. -/
structure Place where
  blk : Option Nat
  base : Nat
  sz : Nat
  cap : Nat

structure Ctx where
  imm : Nat → Prop
  obj : Nm → Option Place
  gen : Nm → Nat

/-- Values that never change, as the machine holds them: 'imm': the blocks that will not be written any more. -/
inductive IRel (imm : Nat → Prop) (w : World) : PV → Value → Prop
  | junk (u : Value) : IRel imm w .junk u
  | bool (b : Bool) : IRel imm w (.bool b) (.bool b)
  | int (k : IntKind) (n : Int) : IRel imm w (.int k n) (.int k n)
  | str (s : ByteArray) : IRel imm w (.str s.data.toList) (.string s)
  | agg (cs : List PV) (us : Array Value) (hl : cs.length = us.size) (h1 : ∀ (i : Nat) u, us[i]? = some u → u.oneCell' = true) (h : ∀ (i : Nat) c u, cs[i]? = some c → us[i]? = some u → IRel imm w c u) : IRel imm w (.agg cs) (.agg us)
  | vsNone (c : Fl) (hc : c ≠ .nn) : IRel imm w (.vs c []) (.slice none 0 0)
  | vs (c : Fl) (L : List PV) (b o cap sz : Nat) (uf : Nat → Nat → Value) (hc : c ≠ .nil) (hcap : L.length ≤ cap) (hclip : c = .clip → cap = L.length)
      (hsz : ∀ (i : Nat) e, L[i]? = some e → e.cells.length = sz)
      (hcell : ∀ (i j : Nat), i < L.length → j < sz → imm b ∧ w.cell? ⟨b, o + i * sz + j, none⟩ = some (uf i j) ∧ (uf i j).oneCell' = true)
      (h : ∀ (i j : Nat) e cv, L[i]? = some e → e.cells[j]? = some cv → IRel imm w cv (uf i j)) :
      IRel imm w (.vs c L) (.slice (some ⟨b, o, none⟩) L.length cap)
  | vsE (c : Fl) (A : Addr) (hc : c ≠ .nil) : IRel imm w (.vs c []) (.slice (some A) 0 0)
  | nilp : IRel imm w .nilp (.pointer none)
  | ip (cs : List PV) (b o : Nat) (uf : Nat → Value) (hcell : ∀ (j : Nat), j < cs.length → imm b ∧ w.cell? ⟨b, o + j, none⟩ = some (uf j) ∧ (uf j).oneCell' = true)
      (h : ∀ (j : Nat) cv, cs[j]? = some cv → IRel imm w cv (uf j)) : IRel imm w (.ip cs) (.pointer (some ⟨b, o, none⟩))
  | nilmap : IRel imm w .nilmap (.map none)
  | nilfn : IRel imm w .nilfn .nilFunc
  | nili : IRel imm w .nili .nilIface
  | fn (f : Nat) (a b : List PV) (xs ys : Array Value) (ha : a.length = xs.size) (hb : b.length = ys.size)
      (h1 : ∀ (i : Nat) c u, a[i]? = some c → xs[i]? = some u → IRel imm w c u) (h2 : ∀ (i : Nat) c u, b[i]? = some c → ys[i]? = some u → IRel imm w c u) :
      IRel imm w (.fn f a b) (.func (.func f) xs ys)
  | tuple (cs : List PV) (us : Array Value) (hl : cs.length = us.size) (h : ∀ (i : Nat) c u, cs[i]? = some c → us[i]? = some u → IRel imm w c u) : IRel imm w (.tuple cs) (.tuple us)

/-- All values. -/
inductive VRel (c : Ctx) (w : World) : PV → Value → Prop
  | i (v : PV) (u : Value) (h : IRel c.imm w v u) : VRel c w v u
  | agg (cs : List PV) (us : Array Value) (hl : cs.length = us.size) (h1 : ∀ (i : Nat) u, us[i]? = some u → u.oneCell' = true) (h : ∀ (i : Nat) cv u, cs[i]? = some cv → us[i]? = some u → VRel c w cv u) : VRel c w (.agg cs) (.agg us)
  | tuple (cs : List PV) (us : Array Value) (hl : cs.length = us.size) (h : ∀ (i : Nat) cv u, cs[i]? = some cv → us[i]? = some u → VRel c w cv u) : VRel c w (.tuple cs) (.tuple us)
  | fn (f : Nat) (a b : List PV) (xs ys : Array Value) (ha : a.length = xs.size) (hb : b.length = ys.size)
      (h1 : ∀ (i : Nat) cv u, a[i]? = some cv → xs[i]? = some u → VRel c w cv u) (h2 : ∀ (i : Nat) cv u, b[i]? = some cv → ys[i]? = some u → VRel c w cv u) :
      VRel c w (.fn f a b) (.func (.func f) xs ys)
  | slStale (n : Nm) (g off len : Nat) (u : Value) (h : g < c.gen n) (h1 : u.oneCell' = true) : VRel c w (.sl n g off len) u
  | slNil (n : Nm) (g : Nat) (p : Place) (hg : g ≤ c.gen n) (hp : c.obj n = some p) (hb : p.blk = none) : VRel c w (.sl n g 0 0) (.slice none 0 0)
  | sl (n : Nm) (g off len : Nat) (p : Place) (b : Nat) (hg : g ≤ c.gen n) (hp : c.obj n = some p) (hb : p.blk = some b) (hl : off + len ≤ p.cap) :
      VRel c w (.sl n g off len) (.slice (some ⟨b, p.base + off * p.sz, none⟩) len (p.cap - off))
  | slE (n : Nm) (g off : Nat) (p : Place) (A : Addr) (hg : g ≤ c.gen n) (hp : c.obj n = some p) (hl : off = p.cap) : VRel c w (.sl n g off 0) (.slice (some A) 0 0)
  | ptrStale (n : Nm) (g i off : Nat) (u : Value) (h : g < c.gen n) (h1 : u.oneCell' = true) : VRel c w (.ptr n g i off) u
  | ptr (n : Nm) (g i off : Nat) (p : Place) (b : Nat) (hg : g ≤ c.gen n) (hp : c.obj n = some p) (hb : p.blk = some b) :
      VRel c w (.ptr n g i off) (.pointer (some ⟨b, p.base + i * p.sz + off, none⟩))
  | mapStale (n : Nm) (g : Nat) (u : Value) (h : g < c.gen n) (h1 : u.oneCell' = true) : VRel c w (.map n g) u
  | map (n : Nm) (g : Nat) (p : Place) (b : Nat) (hg : g ≤ c.gen n) (hp : c.obj n = some p) (hb : p.blk = some b) : VRel c w (.map n g) (.map (some b))
  | yldStale (n : Nm) (g : Nat) (u : Value) (h : g < c.gen n) (h1 : u.oneCell' = true) : VRel c w (.yld n g) u
  | yld (n : Nm) (g : Nat) (p : Place) (b : Nat) (hg : g ≤ c.gen n) (hp : c.obj n = some p) (hb : p.blk = some b) : VRel c w (.yld n g) (.func (.yield b) #[] #[])

def CRel (cl : Bool) (c : Ctx) (w : World) (v : PV) (u : Value) : Prop := if cl then IRel c.imm w v u else VRel c w v u

theorem CRel.v {cl : Bool} {c : Ctx} {w : World} {v : PV} {u : Value} (h : CRel cl c w v u) : VRel c w v u := by
  cases cl
  · exact h
  · exact .i _ _ h

/-- An array's elements in memory. -/
structure MemRel (c : Ctx) (w : World) (p : Place) (el : List PV) (cl : Bool) (osz : Nat) : Prop where
  osz : p.sz = osz
  nil : p.blk = none → el = [] ∧ p.cap = 0
  cap : el.length ≤ p.cap
  sz : ∀ (i : Nat) e, el[i]? = some e → e.cells.length = p.sz
  row : ∀ b, p.blk = some b → ∃ (arr : Array Value) (E : TypeId), w.heap[b]? = some (.cells arr E (0, 0)) ∧ p.base + p.cap * p.sz ≤ arr.size ∧
    ∀ (i j : Nat) e cv, el[i]? = some e → e.cells[j]? = some cv → ∃ u, arr[p.base + i * p.sz + j]? = some u ∧ u.oneCell' = true ∧ CRel cl c w cv u

def LoopRel (c : Ctx) (w : World) (b : Nat) (tmps : List PV) (params : List Nat) (MC : PC → Code → Prop) (assign body : PC) (jump : Option PEx) : Prop :=
  ∃ l : Loop, w.heap[b]? = some (.loop l) ∧ l.params.toList = params ∧ tmps.length = l.tmps.size ∧ (∀ i, VRel c w (tmps.getD i .junk) (l.tmps.getD i undef)) ∧ MC assign l.assign ∧ MC body l.body ∧
    (match jump with
     | none => l.state = .ready ∧ l.pending = none
     | some .norm => l.state = .busy
     | some (.exit id) => l.state = .done ∧ l.pending = some (.exit id)
     | some .ret => l.state = .done ∧ l.pending = some .ret)

/-- The frame's and its callers' tables in memory (a loop whose jump is '.norm' is in a round). 'MC': which code is which. -/
def ObRel (MC : PC → Code → Prop) (c : Ctx) (w : World) (n : Nm) : Ob → Prop
  | .mem el g cl sz => c.gen n = g ∧ ∀ p, c.obj n = some p → MemRel c w p el cl sz
  | .map es clock g => c.gen n = g ∧ ∀ p, c.obj n = some p → ∃ b arr, p.blk = some b ∧ w.heap[b]? = some (.map arr clock) ∧ arr.size = es.length ∧
      (∀ (i : Nat) (e : PV × PV) (x : MapEntry), es[i]? = some e → arr[i]? = some x → IRel c.imm w e.1 x.key ∧ IRel c.imm w e.2 x.val)
  | .loop tmps params assign body jump g => c.gen n = g ∧ ∀ p, c.obj n = some p → ∃ b, p.blk = some b ∧ LoopRel c w b tmps params MC assign body jump
  | .dead g => c.gen n = g

def HRel (MC : PC → Code → Prop) (c : Ctx) (h : Heap) (w : World) : Prop := ∀ n o, hget h n = some o → ObRel MC c w n o

/-- The context fits the memory. -/
structure WF (G : Nat → Option PV) (c : Ctx) (w : World) : Prop where
  lt : ∀ n p b, c.obj n = some p → p.blk = some b → b < w.heap.size
  inj : ∀ n m p q b, c.obj n = some p → c.obj m = some q → p.blk = some b → q.blk = some b → n = m
  apart : ∀ n p b, c.obj n = some p → p.blk = some b → ¬ c.imm b
  ilt : ∀ b, c.imm b → b < w.heap.size
  glob : ∀ g v, G g = some v → IRel c.imm w v (.pointer (some ⟨g, 0, none⟩))

/-- What a step may do: 'N': names that nothing could refer to, and that may have got an object. -/
structure Step (N : Nm → Prop) (c : Ctx) (w : World) (c' : Ctx) (w' : World) : Prop where
  size : w.heap.size ≤ w'.heap.size
  os : w'.os = w.os
  out : w'.output = w.output
  gen : ∀ n, c.gen n ≤ c'.gen n
  obj : ∀ n, ¬ N n → c'.gen n = c.gen n → c'.obj n = c.obj n
  phan : ∀ n, N n → c.obj n = none
  imm : ∀ b, c.imm b → c'.imm b
  immNew : ∀ b, c'.imm b → c.imm b ∨ w.heap.size ≤ b ∨ ∃ n p, c.obj n = some p ∧ p.blk = some b
  objNew : ∀ n p b, c'.obj n = some p → p.blk = some b → w.heap.size ≤ b ∨ ∃ m q, c.obj m = some q ∧ q.blk = some b
  frame : ∀ b, b < w.heap.size → (∀ n p, c.obj n = some p → p.blk ≠ some b) → w'.heap[b]? = w.heap[b]?

theorem cell?_of_heap {w w' : World} {b o : Nat} (h : w'.heap[b]? = w.heap[b]?) : w'.cell? ⟨b, o, none⟩ = w.cell? ⟨b, o, none⟩ := by
  simp only [World.cell?, h]

theorem IRel.mono {imm imm' : Nat → Prop} {w w' : World} (h1 : ∀ b, imm b → imm' b) (h2 : ∀ b, imm b → w'.heap[b]? = w.heap[b]?) {v : PV} {u : Value} (h : IRel imm w v u) : IRel imm' w' v u := by
  induction h with
  | junk u => exact .junk u
  | bool b => exact .bool b
  | int k n => exact .int k n
  | str s => exact .str s
  | agg cs us hl h1 _ ih => exact .agg cs us hl h1 ih
  | vsNone c hc => exact .vsNone c hc
  | vsE c A hc => exact .vsE c A hc
  | vs c L b o cap sz uf hc hcap hclip hsz hcell _ ih =>
    exact .vs c L b o cap sz uf hc hcap hclip hsz (fun i j hi hj => let ⟨a, e, x⟩ := hcell i j hi hj; ⟨h1 _ a, (cell?_of_heap (h2 _ a)).trans e, x⟩) ih
  | nilp => exact .nilp
  | ip cs b o uf hcell _ ih => exact .ip cs b o uf (fun j hj => let ⟨a, e, x⟩ := hcell j hj; ⟨h1 _ a, (cell?_of_heap (h2 _ a)).trans e, x⟩) ih
  | nilmap => exact .nilmap
  | nilfn => exact .nilfn
  | nili => exact .nili
  | fn f a b xs ys ha hb _ _ i1 i2 => exact .fn f a b xs ys ha hb i1 i2
  | tuple cs us hl _ ih => exact .tuple cs us hl ih

theorem Step.immSame {G : Nat → Option PV} {N : Nm → Prop} {c c' : Ctx} {w w' : World} (h : Step N c w c' w') (hw : WF G c w) : ∀ b, c.imm b → w'.heap[b]? = w.heap[b]? :=
  fun b hb => h.frame b (hw.ilt b hb) fun n p hp he => hw.apart n p b hp he hb

theorem IRel.step {G : Nat → Option PV} {N : Nm → Prop} {c c' : Ctx} {w w' : World} (h : Step N c w c' w') (hw : WF G c w) {v : PV} {u : Value} (hv : IRel c.imm w v u) : IRel c'.imm w' v u :=
  hv.mono h.imm (h.immSame hw)

theorem lowL_get {L : Nat} : ∀ {cs : List PV} {i : Nat} {v : PV}, PV.lowL L cs = true → cs[i]? = some v → v.low L = true
  | [], i, v, _, h => by simp at h
  | a :: r, 0, v, hf, h => by
    simp only [PV.lowL, Bool.and_eq_true] at hf
    simp only [List.getElem?_cons_zero, Option.some.injEq] at h
    exact h ▸ hf.1
  | a :: r, i + 1, v, hf, h => by
    simp only [PV.lowL, Bool.and_eq_true] at hf
    simp only [List.getElem?_cons_succ] at h
    exact lowL_get hf.2 h

theorem VRel.step {G : Nat → Option PV} {N : Nm → Prop} {c c' : Ctx} {w w' : World} (h : Step N c w c' w') (hw : WF G c w) {v : PV} {u : Value} (hv : VRel c w v u) : VRel c' w' v u := by
  have live : ∀ {n p}, c.obj n = some p → ¬ N n := fun {n p} hp hn => by rw [h.phan n hn] at hp; cases hp
  induction hv with
  | i v u hi => exact .i _ _ (hi.step h hw)
  | agg cs us hl h1 _ ih => exact .agg cs us hl h1 ih
  | tuple cs us hl _ ih => exact .tuple cs us hl ih
  | fn f a b xs ys ha hb _ _ i1 i2 => exact .fn f a b xs ys ha hb i1 i2
  | slStale n g off len u hg h1 => exact .slStale n g off len u (Nat.lt_of_lt_of_le hg (h.gen n)) h1
  | slNil n g p hg hp hb =>
    rcases Nat.eq_or_lt_of_le (h.gen n) with he | hl
    · exact .slNil n g p (he ▸ hg) ((h.obj n (live hp) he.symm).trans hp) hb
    · exact .slStale n g 0 0 _ (Nat.lt_of_le_of_lt hg hl) rfl
  | sl n g off len p b hg hp hb hl =>
    rcases Nat.eq_or_lt_of_le (h.gen n) with he | hlt
    · exact .sl n g off len p b (he ▸ hg) ((h.obj n (live hp) he.symm).trans hp) hb hl
    · exact .slStale n g off len _ (Nat.lt_of_le_of_lt hg hlt) rfl
  | slE n g off p A hg hp hl =>
    rcases Nat.eq_or_lt_of_le (h.gen n) with he | hlt
    · exact .slE n g off p A (he ▸ hg) ((h.obj n (live hp) he.symm).trans hp) hl
    · exact .slStale n g off 0 _ (Nat.lt_of_le_of_lt hg hlt) rfl
  | ptrStale n g i off u hg h1 => exact .ptrStale n g i off u (Nat.lt_of_lt_of_le hg (h.gen n)) h1
  | ptr n g i off p b hg hp hb =>
    rcases Nat.eq_or_lt_of_le (h.gen n) with he | hlt
    · exact .ptr n g i off p b (he ▸ hg) ((h.obj n (live hp) he.symm).trans hp) hb
    · exact .ptrStale n g i off _ (Nat.lt_of_le_of_lt hg hlt) rfl
  | mapStale n g u hg h1 => exact .mapStale n g u (Nat.lt_of_lt_of_le hg (h.gen n)) h1
  | map n g p b hg hp hb =>
    rcases Nat.eq_or_lt_of_le (h.gen n) with he | hlt
    · exact .map n g p b (he ▸ hg) ((h.obj n (live hp) he.symm).trans hp) hb
    · exact .mapStale n g _ (Nat.lt_of_le_of_lt hg hlt) rfl
  | yldStale n g u hg h1 => exact .yldStale n g u (Nat.lt_of_lt_of_le hg (h.gen n)) h1
  | yld n g p b hg hp hb =>
    rcases Nat.eq_or_lt_of_le (h.gen n) with he | hlt
    · exact .yld n g p b (he ▸ hg) ((h.obj n (live hp) he.symm).trans hp) hb
    · exact .yldStale n g _ (Nat.lt_of_le_of_lt hg hlt) rfl

def N0 : Nm → Prop := fun _ => False

theorem Step.refl (c : Ctx) (w : World) : Step N0 c w c w :=
  ⟨Nat.le_refl _, rfl, rfl, fun _ => Nat.le_refl _, fun _ _ _ => rfl, fun _ h => h.elim, fun _ h => h, fun _ h => .inl h, fun n p _ h1 h2 => .inr ⟨n, p, h1, h2⟩, fun _ _ _ => rfl⟩

/-- Two steps; names that the second gives an object to are new for the first as well, or the first has left their objects behind. -/
theorem Step.trans' {N N' : Nm → Prop} {c c1 c2 : Ctx} {w w1 w2 : World} (h : Step N c w c1 w1) (h' : Step N' c1 w1 c2 w2) (hN : ∀ n, N' n → N n ∨ c.gen n < c1.gen n) : Step N c w c2 w2 where
  size := Nat.le_trans h.size h'.size
  os := h'.os.trans h.os
  out := h'.out.trans h.out
  gen n := Nat.le_trans (h.gen n) (h'.gen n)
  phan n hn := h.phan n hn
  obj n hn he := by
    have h1 := h.gen n
    have h2 := h'.gen n
    have e1 : c1.gen n = c.gen n := by omega
    have hn' : ¬ N' n := fun x => (hN n x).elim hn fun y => by omega
    exact (h'.obj n hn' (by omega)).trans (h.obj n hn e1)
  imm b hb := h'.imm b (h.imm b hb)
  immNew b hb := by
    rcases h'.immNew b hb with h1 | h1 | ⟨n, p, h1, h2⟩
    · exact h.immNew b h1
    · exact .inr (.inl (Nat.le_trans h.size h1))
    · rcases h.objNew n p b h1 h2 with h3 | h3
      · exact .inr (.inl h3)
      · exact .inr (.inr h3)
  objNew n p b h1 h2 := by
    rcases h'.objNew n p b h1 h2 with h3 | ⟨m, q, h3, h4⟩
    · exact .inl (Nat.le_trans h.size h3)
    · exact h.objNew m q b h3 h4
  frame b hb hno := by
    refine (h'.frame b (Nat.lt_of_lt_of_le hb h.size) fun n p h1 h2 => ?_).trans (h.frame b hb hno)
    rcases h.objNew n p b h1 h2 with h3 | ⟨m, q, h3, h4⟩
    · omega
    · exact hno m q h3 h4

theorem Step.trans {c c1 c2 : Ctx} {w w1 w2 : World} (h : Step N0 c w c1 w1) (h' : Step N0 c1 w1 c2 w2) : Step N0 c w c2 w2 := h.trans' h' fun _ h => h.elim

/-- Values in which no name of the call's own is met are values that never change. -/
theorem VRel.pure {c : Ctx} {w : World} {v : PV} {u : Value} (h : VRel c w v u) (hp : v.low 0 = true) : IRel c.imm w v u := by
  induction h with
  | i v u hi => exact hi
  | agg cs us hl h1 _ ih => exact .agg cs us hl h1 fun i cv u hc hu => ih i cv u hc hu (lowL_get hp hc)
  | tuple cs us hl _ ih => exact .tuple cs us hl fun i cv u hc hu => ih i cv u hc hu (lowL_get hp hc)
  | fn f a b xs ys ha hb _ _ i1 i2 =>
    have hf' : PV.lowL 0 a = true ∧ PV.lowL 0 b = true := by simpa [PV.low] using hp
    exact .fn f a b xs ys ha hb (fun i cv u hc hu => i1 i cv u hc hu (lowL_get hf'.1 hc)) (fun i cv u hc hu => i2 i cv u hc hu (lowL_get hf'.2 hc))
  | slStale n g off len u hg h1 => simp [PV.low] at hp
  | slNil n g p hg hp' hb => simp [PV.low] at hp
  | sl n g off len p b hg hp' hb hl => simp [PV.low] at hp
  | slE n g off p A hg hp' hl => simp [PV.low] at hp
  | ptrStale n g i off u hg h1 => simp [PV.low] at hp
  | ptr n g i off p b hg hp' hb => simp [PV.low] at hp
  | mapStale n g u hg h1 => simp [PV.low] at hp
  | map n g p b hg hp' hb => simp [PV.low] at hp
  | yldStale n g u hg h1 => simp [PV.low] at hp
  | yld n g p b hg hp' hb => simp [PV.low] at hp

end Go.VI
