/- The operations of VI's that only make a value out of values. -/
import Derived.Test.YteodaifeknghaaaVi2
import Derived.Laws.Strings
namespace Go.VI
variable {g : PG} {c : Ctx} {w : World} {fr fr' : Fr} {a : Act} {o : Oper} {callE : CallE} {yieldE : Nm → List PV → Heap → Option (PV × Heap)}

theorem run_underlying' (P : Program) {t : TypeId} {d : TypeDesc} (w : World) (h : P.underlying t = some d) : (underlying t).run P w = .ok d w := by
  simp [underlying, h]

theorem ok_mov (h : FrRel g c w fr a) {x : PX} {y : Operand} (ho : o.op = .move y ∨ o.op = .assign y) (hm : g.matchX x y = true)
    (hs : stepOp g.E callE yieldE o.dst (.mov x) fr = some fr') : OpOK g c w fr fr' a o.dst ((execOp a.eval o).run g.P w) := by
  simp only [stepOp, Option.some.injEq] at hs
  subst hs
  refine OpOK.value h _ (v := a.eval y) ?_ (h.x hm)
  rcases ho with ho | ho <;> simp [execOp, ho]

theorem ok_pick (h : FrRel g c w fr a) {x p q : PX} {x' p' q' : Operand} (ho : o.op = .pick x' p' q') (hx : g.matchX x x' = true) (hp : g.matchX p p' = true) (hq : g.matchX q q' = true)
    (hs : stepOp g.E callE yieldE o.dst (.pick x p q) fr = some fr') : OpOK g c w fr fr' a o.dst ((execOp a.eval o).run g.P w) := by
  simp only [stepOp] at hs
  split at hs
  · rename_i t ht
    have hv := h.x hx
    rw [ht] at hv
    have he := hv.bool_inv
    simp only [Option.some.injEq] at hs
    subst hs
    refine OpOK.value h _ (v := if t then a.eval p' else a.eval q') ?_ (by cases t <;> simp [h.x hp, h.x hq])
    simp [execOp, ho, he, asBool]
  · simp at hs

theorem run_intOp {P : Program} {w : World} {op : BinOp} {k : IntKind} {t : TypeId} {x y : Int} {v : PV} (h : intOp op k x y = some v) :
    ∃ u, (binOp op t (.int k x) (.int k y)).run P w = .ok u w ∧ ∀ c : Ctx, VRel c w v u := by
  cases op
  case quo =>
    simp only [intOp] at h
    split at h <;> simp only [reduceCtorEq, Option.some.injEq] at h
    rename_i hn
    subst h
    exact ⟨_, by simp [binOp, Op.intDiv, hn], fun c => .i _ _ (.int _ _)⟩
  case rem =>
    simp only [intOp] at h
    split at h <;> simp only [reduceCtorEq, Option.some.injEq] at h
    rename_i hn
    subst h
    exact ⟨_, by simp [binOp, Op.intDiv, hn], fun c => .i _ _ (.int _ _)⟩
  case shl => simp [intOp] at h
  case shr => simp [intOp] at h
  all_goals
    simp only [intOp, Option.some.injEq] at h
    subst h
    first
    | (refine ⟨_, ?_, fun c => .i _ _ (.int _ _)⟩; (simp [binOp, Op.intArith]; done))
    | (refine ⟨_, ?_, fun c => .i _ _ (.int _ _)⟩; (simp only [binOp, ne_eq, not_true_eq_false, if_false]; rfl))
    | (refine ⟨_, ?_, fun c => .i _ _ (.bool _)⟩; (simp [binOp, Op.intCmp]; done))

theorem run_shiftOp {P : Program} {w : World} {op : BinOp} {k k' : IntKind} {t : TypeId} {x y : Int} {v : PV} (hop : op = .shl ∨ op = .shr) (h : shiftOp op k x y = some v) :
    ∃ u, (binOp op t (.int k x) (.int k' y)).run P w = .ok u w ∧ ∀ c : Ctx, VRel c w v u := by
  unfold shiftOp at h
  split at h
  · simp at h
  · rename_i hn
    rcases hop with rfl | rfl <;> simp only [Option.some.injEq] at h <;> subst h <;>
      exact ⟨_, by simp [binOp, Op.shift, hn], fun c => .i _ _ (.int _ _)⟩

theorem run_eqGuard_int {P : Program} {w : World} (op : BinOp) (t : TypeId) (x y : Operand) (k k' : IntKind) (m n : Int) : (eqGuard op t x y (.int k m) (.int k' n)).run P w = .ok () w := by
  unfold eqGuard
  split <;> rfl
theorem run_eqGuard_str {P : Program} {w : World} (op : BinOp) (t : TypeId) (x y : Operand) (m n : ByteArray) : (eqGuard op t x y (.string m) (.string n)).run P w = .ok () w := by
  unfold eqGuard
  split <;> rfl

theorem ok_bini (h : FrRel g c w fr a) {op : BinOp} {x y : PX} {x' y' : Operand} {t t' : TypeId} (ho : o.op = .binOp op t x' y' t') (hx : g.matchX x x' = true) (hy : g.matchX y y' = true)
    (hs : stepOp g.E callE yieldE o.dst (.bini op x y) fr = some fr') : OpOK g c w fr fr' a o.dst ((execOp a.eval o).run g.P w) := by
  simp only [stepOp] at hs
  split at hs
  · rename_i v hv
    simp only [Option.some.injEq] at hs
    subst hs
    have h1 := h.x hx
    have h2 := h.x hy
    have fin : ∀ {k k' : IntKind} {m n : Int} {u : Value}, a.eval x' = .int k m → a.eval y' = .int k' n → (binOp op t (.int k m) (.int k' n)).run g.P w = .ok u w → (∀ c : Ctx, VRel c w v u) →
        OpOK g c w fr (fr.put o.dst v) a o.dst ((execOp a.eval o).run g.P w) := by
      intro k k' m n u e1 e2 hr hu
      refine OpOK.value h _ (v := u) ?_ (hu c)
      simp [execOp, ho, e1, e2, run_eqGuard_int, hr]
    unfold binI at hv
    split at hv
    · rename_i e1 e2
      rw [e1] at h1; rw [e2] at h2
      obtain ⟨u, hr, hu⟩ := run_shiftOp (P := g.P) (w := w) (t := t) (.inl rfl) hv
      exact fin h1.int_inv h2.int_inv hr hu
    · rename_i e1 e2
      rw [e1] at h1; rw [e2] at h2
      obtain ⟨u, hr, hu⟩ := run_shiftOp (P := g.P) (w := w) (t := t) (.inr rfl) hv
      exact fin h1.int_inv h2.int_inv hr hu
    · rename_i e1 e2
      rw [e1] at h1; rw [e2] at h2
      split at hv
      · rename_i hk
        subst hk
        obtain ⟨u, hr, hu⟩ := run_intOp (P := g.P) (w := w) (t := t) hv
        exact fin h1.int_inv h2.int_inv hr hu
      · simp at hv
    · simp at hv
  · simp at hs

theorem ok_bins (h : FrRel g c w fr a) {op : BinOp} {x y : PX} {x' y' : Operand} {t t' : TypeId} (ho : o.op = .binOp op t x' y' t') (hx : g.matchX x x' = true) (hy : g.matchX y y' = true)
    (hs : stepOp g.E callE yieldE o.dst (.bins op x y) fr = some fr') : OpOK g c w fr fr' a o.dst ((execOp a.eval o).run g.P w) := by
  simp only [stepOp] at hs
  split at hs
  · rename_i v hv
    simp only [Option.some.injEq] at hs
    subst hs
    have h1 := h.x hx
    have h2 := h.x hy
    unfold binS at hv
    split at hv
    · rename_i s1 s2 e1 e2
      rw [e1] at h1; rw [e2] at h2
      obtain ⟨t1, f1, g1⟩ := h1.str_inv
      obtain ⟨t2, f2, g2⟩ := h2.str_inv
      have l1 : t1.size = s1.length := by rw [← g1]; rfl
      have l2 : t2.size = s2.length := by rw [← g2]; rfl
      have key : ∃ u, (Op.stringOp op t1 t2).run g.P w = .ok u w ∧ VRel c w v u := by
        unfold Op.stringOp
        rw [ByteArray.toList_eq, ByteArray.toList_eq, g1, g2]
        cases op <;> simp only [Option.some.injEq, reduceCtorEq] at hv
        case add =>
          split at hv <;> simp only [Option.some.injEq, reduceCtorEq] at hv
          rename_i hl
          subst hv
          have hno : ¬ (((t1.size + t2.size : Nat) : Int) > IntKind.i64.max) := by
            rw [l1, l2]
            have : IntKind.i64.max = 9223372036854775807 := by decide
            omega
          refine ⟨_, by simp only [hno, if_false]; rfl, .i _ _ ?_⟩
          have : s1 ++ s2 = (t1 ++ t2).data.toList := by simp [← g1, ← g2]
          rw [this]
          exact .str _
        all_goals (subst hv; exact ⟨_, rfl, .i _ _ (.bool _)⟩)
      obtain ⟨u, hr, hu⟩ := key
      refine OpOK.value h _ (v := u) ?_ hu
      have hb : binOp op t (.string t1) (.string t2) = Op.stringOp op t1 t2 := by cases op <;> rfl
      simp [execOp, ho, f1, f2, run_eqGuard_str, hb, hr]
    · simp at hv
  · simp at hs

theorem ok_neg (h : FrRel g c w fr a) {x : PX} {x' : Operand} {t : TypeId} (ho : o.op = .unOp .neg t x') (hx : g.matchX x x' = true)
    (hs : stepOp g.E callE yieldE o.dst (.neg x) fr = some fr') : OpOK g c w fr fr' a o.dst ((execOp a.eval o).run g.P w) := by
  simp only [stepOp] at hs
  split at hs <;> simp only [Option.some.injEq, reduceCtorEq] at hs
  rename_i k n e
  subst hs
  have h1 := h.x hx
  rw [e] at h1
  refine OpOK.value h _ (v := .int k (k.wrap (0 - n))) ?_ (.i _ _ (.int _ _))
  simp [execOp, ho, h1.int_inv, Op.unary, Op.intArith]

theorem ok_compl (h : FrRel g c w fr a) {x : PX} {x' : Operand} {t : TypeId} (ho : o.op = .unOp .xor t x') (hx : g.matchX x x' = true)
    (hs : stepOp g.E callE yieldE o.dst (.compl x) fr = some fr') : OpOK g c w fr fr' a o.dst ((execOp a.eval o).run g.P w) := by
  simp only [stepOp] at hs
  split at hs <;> simp only [Option.some.injEq, reduceCtorEq] at hs
  rename_i k n e
  subst hs
  have h1 := h.x hx
  rw [e] at h1
  refine OpOK.value h _ (v := .int k (k.wrap ((BitVec.ofInt k.bits (if k.signed then -1 else k.max) ^^^ BitVec.ofInt k.bits n).toNat : Int))) ?_ (.i _ _ (.int _ _))
  simp [execOp, ho, h1.int_inv, Op.unary, Op.intBits]

theorem ok_notb (h : FrRel g c w fr a) {x : PX} {x' : Operand} {t : TypeId} (ho : o.op = .unOp .not t x') (hx : g.matchX x x' = true)
    (hs : stepOp g.E callE yieldE o.dst (.notb x) fr = some fr') : OpOK g c w fr fr' a o.dst ((execOp a.eval o).run g.P w) := by
  simp only [stepOp] at hs
  split at hs <;> simp only [Option.some.injEq, reduceCtorEq] at hs
  rename_i b e
  subst hs
  have h1 := h.x hx
  rw [e] at h1
  refine OpOK.value h _ (v := .bool !b) ?_ (.i _ _ (.bool _))
  simp [execOp, ho, h1.bool_inv, Op.unary]

theorem ok_conv (h : FrRel g c w fr a) {k : IntKind} {x : PX} {x' : Operand} {t t' : TypeId} {d : TypeDesc} (ho : o.op = .convert t t' x') (ht : g.P.underlying t = some d) (ht' : g.P.underlying t' = some (.int k)) (hx : g.matchX x x' = true)
    (hs : stepOp g.E callE yieldE o.dst (.conv k x) fr = some fr') : OpOK g c w fr fr' a o.dst ((execOp a.eval o).run g.P w) := by
  simp only [stepOp] at hs
  split at hs <;> simp only [Option.some.injEq, reduceCtorEq] at hs
  rename_i k' n e
  subst hs
  have h1 := h.x hx
  rw [e] at h1
  refine OpOK.value h _ (v := .int k (k.wrap n)) ?_ (.i _ _ (.int _ _))
  simp [execOp, ho, h1.int_inv, convert, run_underlying' g.P _ ht, run_underlying' g.P _ ht', Conv.intToInt]

theorem ok_convs (h : FrRel g c w fr a) {x : PX} {x' : Operand} {t t' : TypeId} (ho : o.op = .convert t t' x') (ht : g.P.underlying t = some .string) (ht' : g.P.underlying t' = some .string) (hx : g.matchX x x' = true)
    (hs : stepOp g.E callE yieldE o.dst (.convs x) fr = some fr') : OpOK g c w fr fr' a o.dst ((execOp a.eval o).run g.P w) := by
  simp only [stepOp] at hs
  split at hs <;> simp only [Option.some.injEq, reduceCtorEq] at hs
  rename_i s hx'
  subst hs
  have h1 := h.x hx
  rw [hx'] at h1
  refine OpOK.value h _ (v := a.eval x') ?_ h1
  obtain ⟨t1, f1, g1⟩ := h1.str_inv
  simp [execOp, ho, f1, convert, run_underlying' g.P _ ht, run_underlying' g.P _ ht']

theorem LRel.of_xs (h : FrRel g c w fr a) {xs : List PX} {os : Array Operand} (hm : g.matchXs xs os.toList = true) : LRel c w (xs.map (evX g.E fr.tmps)) (os.map a.eval) := by
  obtain ⟨h1, h2⟩ := h.xs hm
  exact ⟨by simpa using h1, fun i v u hv hu => h2 i v u hv (by simpa using hu)⟩

theorem ok_mkfn (h : FrRel g c w fr a) {f : Nat} {p q : List PX} {p' q' : Array Operand} (ho : o.op = .makeFunc (.func f) p' q') (hp : g.matchXs p p'.toList = true) (hq : g.matchXs q q'.toList = true)
    (hs : stepOp g.E callE yieldE o.dst (.mkfn f p q) fr = some fr') : OpOK g c w fr fr' a o.dst ((execOp a.eval o).run g.P w) := by
  simp only [stepOp, Option.some.injEq] at hs
  subst hs
  have h1 := LRel.of_xs h hp
  have h2 := LRel.of_xs h hq
  refine OpOK.value h _ (v := .func (.func f) (p'.map a.eval) (q'.map a.eval)) ?_ (.fn f _ _ _ _ h1.1 h2.1 h1.2 h2.2)
  simp [execOp, ho, Instr.makeFunc]

theorem ok_extract (h : FrRel g c w fr a) {x : PX} {x' : Operand} {i : Nat} (ho : o.op = .extract x' i) (hx : g.matchX x x' = true)
    (hs : stepOp g.E callE yieldE o.dst (.extract x i) fr = some fr') : OpOK g c w fr fr' a o.dst ((execOp a.eval o).run g.P w) := by
  simp only [stepOp] at hs
  split at hs
  · rename_i ts e
    split at hs <;> simp only [Option.some.injEq, reduceCtorEq] at hs
    rename_i v hv
    subst hs
    have h1 := h.x hx
    rw [e] at h1
    obtain ⟨us, f1, hl, hr⟩ := h1.tuple_inv
    have hi : i < us.size := hl ▸ getElem?_some_lt hv
    refine OpOK.value h _ (v := us[i]) ?_ (hr i v us[i] hv (by simp [hi]))
    simp [execOp, ho, f1, Instr.extract, hi]
  · simp at hs

theorem ok_nilc (h : FrRel g c w fr a) {x : PX} {x' : Operand} (ho : o.op = .nilCheck x') (hx : g.matchX x x' = true)
    (hs : stepOp g.E callE yieldE o.dst (.nilc x) fr = some fr') : OpOK g c w fr fr' a o.dst ((execOp a.eval o).run g.P w) := by
  have h1 := h.x hx
  obtain ⟨u, hu⟩ : ∃ u, u = a.eval x' := ⟨_, rfl⟩
  rw [← hu] at h1
  simp only [stepOp] at hs
  split at hs
  · rename_i cs e
    simp only [Option.some.injEq] at hs
    subst hs
    rw [e] at h1
    have h2 := h1.ip_inv
    cases h2 with
    | ip cs b o' uf hc hh =>
      refine OpOK.value h _ (v := .pointer (some ⟨b, o', none⟩)) ?_ (.i _ _ (.ip cs b o' uf hc hh))
      simp [execOp, ho, ← hu]
  · rename_i n gg i off e
    split at hs
    case h_2 => simp at hs
    rename_i el g' cl hob
    split at hs <;> simp only [Option.some.injEq, reduceCtorEq] at hs
    rename_i hgg
    subst hs
    have hst' : c.gen n = gg := hgg ▸ (h.heap n _ hob).1
    rw [e] at h1
    have h1' := h1
    cases h1 with
    | i _ _ h => cases h
    | ptrStale _ _ _ _ _ hlt => omega
    | ptr _ _ _ _ p b hg hp hb =>
      refine OpOK.value h _ (v := .pointer (some ⟨b, p.base + i * p.sz + off, none⟩)) ?_ h1'
      simp [execOp, ho, ← hu]
  · simp at hs

theorem ok_lens (h : FrRel g c w fr a) {x : PX} {x' : Operand} {t : TypeId} {ty : Array TypeId} (ho : o.op = .call { callee := .builtin .len, args := #[x'], argTypes := ty }) (hty : ty[0]? = some t)
    (ht : g.P.underlying t = some .string) (hx : g.matchX x x' = true) (hs : stepOp g.E callE yieldE o.dst (.lens x) fr = some fr') : OpOK g c w fr fr' a o.dst ((execOp a.eval o).run g.P w) := by
  simp only [stepOp] at hs
  split at hs <;> simp only [Option.some.injEq, reduceCtorEq] at hs
  rename_i s e
  subst hs
  have h1 := h.x hx
  rw [e] at h1
  obtain ⟨t1, f1, g1⟩ := h1.str_inv
  have hl : (t1.size : Int) = s.length := by rw [← g1]; rfl
  refine OpOK.value h _ (v := .int .i64 t1.size) ?_ (by rw [hl]; exact .i _ _ (.int _ _))
  simp [execOp, ho, f1, resolve, invoke, builtin, Builtin.len_, hty, run_underlying' g.P _ ht, goInt]

end Go.VI
