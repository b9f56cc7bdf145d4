/- One operation, calls and all; a region in the order of its text. -/
import Derived.Test.YteodaifeknghaaaVi19
import Derived.RangeFuncLeaves
namespace Go.VI
variable {g : PG} {c : Ctx} {w : World} {fr fr' : Fr} {a : Act} {o : Oper} {callE : CallE} {yieldE : Nm → List PV → Heap → Option (PV × Heap)} {Q : Exit → Act → World → Prop} {n : Nat} {ro : Option Nat}

/-- The fence of one that runs in a round of a range over a function, or in none. -/
def wR (ro : Option Nat) : Fence := { fn := fun _ => True, depth := none, alive := false, round := ro }

theorem callsIn_wR {f : FuncId} {vs : Array Value} {R : Ending → World → Prop} (h : Calls g.P f vs w R) : CallsIn (wR ro) n g.P f vs w R := (callsIn_wide.2 h : CallsIn Fence.wide n g.P f vs w R)

def FnsOK (g : PG) : Prop := ∀ f pf, g.E.pf f = some pf → ∃ fn code, g.P.funcs[f]? = some fn ∧ fn.body = some code ∧ fn.name ≠ "runtime.NumGoroutine"

theorem run_callFunc' {P : Program} {f : FuncId} {fn : Func} {code : Code} {args : Array Value} (h : P.funcs[f]? = some fn) (hb : fn.body = some code) (hn : fn.name ≠ "runtime.NumGoroutine") : (callFunc f args).run P w = .ok (.enter f args) w := by
  simp [callFunc, h, hb, hn]

def YieldSound (g : PG) (yieldE : Nm → List PV → Heap → Option (PV × Heap)) : Prop := ∀ nm args h v h', yieldE nm args h = some (v, h') → ∀ c w vs b p, HS g c w h → LRel c w args vs → c.obj nm = some p → p.blk = some b →
  ∃ f tmps as bd, (Instr.yield b vs).run g.P w = .ok (.round b f tmps as bd) w ∧ ∀ n, RoundIn Fence.wide n g.P b f tmps as bd w (CallR g c w h' v)

theorem execOp_call {P : Program} {f' : Operand} {args' : Array Operand} {ty : Array TypeId} {fn : Fn} {xs ys : Array Value} (ho : o.op = .call ⟨.value f', args', ty⟩) (hf : a.eval f' = .func fn xs ys) :
    (execOp a.eval o).run P w = (invoke (.fn fn ys) (xs ++ args'.map a.eval)).run P w := by
  simp [execOp, ho, resolve, Deferred.ofValue, hf]

theorem LRel.append {l l' : List PV} {x x' : Array Value} (h : LRel c w l x) (h' : LRel c w l' x') : LRel c w (l ++ l') (x ++ x') := by
  refine ⟨by simp [h.1, h'.1], fun i v u hv hu => ?_⟩
  rw [List.getElem?_append] at hv
  rw [Array.getElem?_append] at hu
  split at hv
  · rename_i hlt
    rw [if_pos (by rw [← h.1]; exact hlt)] at hu
    exact h.2 i v u hv hu
  · rename_i hge
    rw [if_neg (by rw [← h.1]; exact hge), ← h.1] at hu
    exact h'.2 _ v u hv hu

theorem callV_sound (hcE : CallSound g callE) (hyE : YieldSound g yieldE) (hF : FnsOK g) {f : PV} {uf : Value} {args : List PV} {vs : Array Value} {h h' : Heap} {v : PV} (hd : callV g.E callE yieldE f args h = some (v, h')) (hs : HS g c w h) (hf : VRel c w f uf) (hl : LRel c w args vs) :
    ∃ fn xs ys, uf = .func fn xs ys ∧ ((∃ k as, (invoke (.fn fn ys) (xs ++ vs)).run g.P w = .ok (.enter k as) w ∧ Calls g.P k as w (CallR g c w h' v)) ∨
      ∃ b k tmps as bd, (invoke (.fn fn ys) (xs ++ vs)).run g.P w = .ok (.round b k tmps as bd) w ∧ ∀ n, RoundIn Fence.wide n g.P b k tmps as bd w (CallR g c w h' v)) := by
  unfold callV at hd
  split at hd
  · rename_i k p q
    obtain ⟨xs, ys, rfl, hx, hy⟩ := hf.fn_inv
    have hcall := doCall_sound hcE k (p ++ args ++ q) h v h' hd c w (xs ++ vs ++ ys) hs ((hx.append hl).append hy)
    have hpf : ∃ pf, g.E.pf k = some pf := by
      unfold doCall at hd
      split at hd
      · cases hd
      · rename_i pf hpf; exact ⟨pf, hpf⟩
    obtain ⟨pf, hpf⟩ := hpf
    obtain ⟨fn, code, h1, h2, h3⟩ := hF k pf hpf
    exact ⟨.func k, xs, ys, rfl, .inl ⟨k, xs ++ vs ++ ys, by simp [invoke, run_callFunc' h1 h2 h3], hcall⟩⟩
  · rename_i nm gg
    split at hd
    case h_2 => cases hd
    rename_i tmps params assign body jump g' hob
    split at hd
    case isFalse => cases hd
    rename_i hgg
    subst hgg
    have hgen := (hs.heap nm _ hob).gen
    simp only [Ob.gen] at hgen
    cases hf with
    | i _ _ h => cases h
    | yldStale _ _ _ hlt => omega
    | yld _ _ p b hg hp hb =>
      obtain ⟨k, tm, as, bd, h1, h2⟩ := hyE nm args h v h' hd c w vs b p hs hl hp hb
      exact ⟨.yield b, #[], #[], rfl, .inr ⟨b, k, tm, as, bd, by simpa [invoke] using h1, h2⟩⟩
  · cases hd

/-- What is asked of the state behind an operation. -/
def Goes (g : PG) (c : Ctx) (w : World) (fr' : Fr) (K : Act → World → Prop) : Prop := ∀ c' w' a', Step N0 c w c' w' → FrRel g c' w' fr' a' → K a' w'

theorem op_call (hcE : CallSound g callE) (hyE : YieldSound g yieldE) (hF : FnsOK g) (h : FrRel g c w fr a) {f : PX} {args : List PX} (hm : g.callOK f args o.op = true) (hs : stepOp g.E callE yieldE o.dst (.call f args) fr = some fr') {K : Act → World → Prop} (hK : Goes g c w fr' K) :
    o.wpIn (wR ro) n g.P a w K Q := by
  unfold PG.callOK at hm
  split at hm
  case h_2 => cases hm
  rename_i f' args' ty ho
  simp only [Bool.and_eq_true] at hm
  have hf := h.x hm.1
  have hl : LRel c w (args.map (evX g.E fr.tmps)) (args'.map a.eval) := LRel.of_xs h hm.2
  simp only [stepOp] at hs
  split at hs
  case h_2 => cases hs
  rename_i v h1 hcv
  simp only [Option.some.injEq] at hs
  subst hs
  obtain ⟨fn, xs, ys, e1, hrun⟩ := callV_sound hcE hyE hF hcv h.hs hf hl
  have hsem : o.semAt ro a.eval = execOp a.eval o := Oper.semAt_eq _ _ _ fun c hc => by rw [ho] at hc; cases hc
  refine ⟨fun _ _ => trivial, ?_⟩
  rw [show (wR ro).round = ro from rfl, hsem, execOp_call ho e1]
  rcases hrun with ⟨k, as, hr, hC⟩ | ⟨b, k, tmps, as, bd, hr, hC⟩
  · rw [hr, Oper.uponIn_enter]
    refine ⟨fun hx => by simp [wR] at hx, callsIn_wR (callsMono hC fun e w' hR => ?_)⟩
    obtain ⟨u, c', rfl, hS, hH, hV⟩ := hR
    exact hK c' w' _ hS ((h.after hS hH).put o.dst hV)
  · rw [hr, Oper.uponIn_round]
    refine ⟨fun hx => by simp [wR] at hx, RoundIn.mono (hC _) fun e w' hR => ?_⟩
    obtain ⟨u, c', rfl, hS, hH, hV⟩ := hR
    exact hK c' w' _ hS ((h.after hS hH).put o.dst hV)

theorem op_defer (h : FrRel g c w fr a) (hro : ro = none) {f : PX} {args : List PX} (hm : g.matchOp (.defer f args) o.op = true) (hs : stepOp g.E callE yieldE o.dst (.defer f args) fr = some fr') {K : Act → World → Prop} (hK : Goes g c w fr' K) :
    o.wpIn (wR ro) n g.P a w K Q := by
  subst hro
  simp only [PG.matchOp] at hm
  split at hm
  case h_2 => cases hm
  rename_i f' args' ty ho
  simp only [Bool.and_eq_true] at hm
  have hf := h.x hm.1
  have hl : LRel c w (args.map (evX g.E fr.tmps)) (args'.map a.eval) := LRel.of_xs h hm.2
  simp only [stepOp] at hs
  split at hs
  case h_2 => cases hs
  rename_i k p q hfe
  simp only [Option.some.injEq] at hs
  subst hs
  rw [hfe] at hf
  obtain ⟨xs, ys, e1, hx, hy⟩ := hf.fn_inv
  refine ⟨fun _ _ => trivial, ?_⟩
  have hr : (execOp a.eval o).run g.P w = .ok (.defer { target := .fn (.func k) ys, args := xs ++ args'.map a.eval }) w := by
    simp [execOp, ho, resolve, Deferred.ofValue, e1]
  show o.uponIn (wR none) n g.P a K Q ((o.semAt none a.eval).run g.P w)
  rw [Oper.semAt_none, hr, Oper.uponIn_defer]
  have hF' : FrRel g c w { fr with defers := some (k, p ++ args.map (evX g.E fr.tmps) ++ q) :: fr.defers } { a with defers := { target := .fn (.func k) ys, args := xs ++ args'.map a.eval } :: a.defers } :=
    ⟨h.size, h.tmps, h.heap, h.wf, .cons _ _ _ _ ⟨ys, rfl, (hx.append hl).append hy⟩ h.defs, h.hn⟩
  exact hK c w _ (Step.refl c w) (hF'.put o.dst undef_rel)

/-- Operations that are done in any order of evaluation, or call. -/
def POp.known : POp → Bool
  | .calla _ _ _ _ => false
  | _ => true

def POp.isDefer : POp → Bool
  | .defer _ _ => true
  | _ => false

theorem op_any (hcE : CallSound g callE) (hyE : YieldSound g yieldE) (hF : FnsOK g) (h : FrRel g c w fr a) {p : POp} (hk : p.known = true) (hdf : p.isDefer = true → ro = none) (hm : g.matchOp p o.op = true) (hs : stepOp g.E callE yieldE o.dst p fr = some fr') {K : Act → World → Prop} (hK : Goes g c w fr' K) :
    o.wpIn (wR ro) n g.P a w K Q := by
  cases hc : p.calls with
  | false =>
    have hno : ∀ cc, o.op ≠ .defer cc := by
      intro cc hcc
      rw [hcc] at hm
      cases p <;> simp [PG.matchOp, POp.calls] at hm hc
    obtain ⟨v, w', c', hr, hS, hF'⟩ := ok_op h hm hc hs
    refine ⟨fun _ _ => trivial, ?_⟩
    rw [show (wR ro).round = ro from rfl, Oper.semAt_eq _ _ _ hno]
    rcases hr with hr | ⟨hr, rfl⟩
    · rw [hr, Oper.uponIn_value]; exact hK c' w' _ hS hF'
    · rw [hr, Oper.uponIn_skip]; exact hK c' w' _ hS hF'
  | true =>
    cases p <;> simp only [POp.calls, reduceCtorEq] at hc
    case call f args => exact op_call hcE hyE hF h hm hs hK
    case calla => simp [POp.known] at hk
    case defer f args => exact op_defer h (hdf rfl) hm hs hK

/-- An operation in its place. 'rd': it stands in a round's code. -/
def PG.matchPO (g : PG) (rd : Bool) (os : Array Oper) (p : PPO) (o : Oper) : Bool :=
  decide (p.dst = o.dst) && p.op.known && (!rd || !p.op.isDefer) && g.matchOp p.op o.op && (match p.guard, o.guard with
    | none, none => true
    | some (t, b), some (j, b') => decide ((os[j]?).bind (·.dst) = some t) && (b == b')
    | _, _ => false)

theorem guard_spec (h : FrRel g c w fr a) {os : Array Oper} {p : PPO} {o : Oper} (hm : (match p.guard, o.guard with
    | none, none => true
    | some (t, b), some (j, b') => decide ((os[j]?).bind (·.dst) = some t) && (b == b')
    | _, _ => false) = true) {b : Bool} (hg : guardE fr.tmps p.guard = some b) : Region.wanted o (yielded os a.tmps) = b := by
  cases hp : p.guard with
  | none =>
    cases ho : o.guard with
    | none =>
      rw [hp] at hg
      simp only [guardE, Option.some.injEq] at hg
      simp [Region.wanted, ho, hg]
    | some x => simp [hp, ho] at hm
  | some x =>
    obtain ⟨t, b1⟩ := x
    cases ho : o.guard with
    | none => simp [hp, ho] at hm
    | some y =>
      obtain ⟨j, b2⟩ := y
      simp only [hp, ho, Bool.and_eq_true, decide_eq_true_eq, beq_iff_eq] at hm
      obtain ⟨hd, rfl⟩ := hm
      rw [hp] at hg
      simp only [guardE] at hg
      have ht := h.tmps t
      simp only [Region.wanted, ho, yielded, hd, Option.bind_some]
      split at hg
      · rename_i cc hcc
        simp only [Option.some.injEq] at hg
        rw [hcc] at ht
        have e := ht.bool_inv
        have : a.tmps[t]? = some (.bool cc) := by
          rw [Array.getD_eq_getD_getElem?] at e
          cases hq : a.tmps[t]? with
          | none => rw [hq] at e; simp [undef] at e
          | some q => rw [hq] at e; simp at e; rw [e]
        simp only [this, ← hg]
        cases cc <;> cases b1 <;> rfl
      · rename_i ts hts
        simp only [Option.some.injEq] at hg
        rw [hts] at ht
        obtain ⟨us, e, _⟩ := ht.tuple_inv
        subst hg
        cases hq : a.tmps[t]? with
        | none => simp
        | some q =>
          rw [Array.getD_eq_getD_getElem?, hq] at e
          simp at e
          subst e
          simp
      · cases hg

theorem po_sound (hcE : CallSound g callE) (hyE : YieldSound g yieldE) (hF : FnsOK g) (h : FrRel g c w fr a) {rd : Bool} (hrd : ro ≠ none → rd = true) {os : Array Oper} {p : PPO} {o : Oper} (hm : g.matchPO rd os p o = true) (hs : stepPO g.E callE yieldE p fr = some fr') {K : Act → World → Prop} (hK : Goes g c w fr' K) :
    if Region.wanted o (yielded os a.tmps) then o.wpIn (wR ro) n g.P a w K Q else (∀ f, o.about g.P w a.eval = some f → (wR ro).fn f) ∧ K (a.put o.dst undef) w := by
  unfold PG.matchPO at hm
  simp only [Bool.and_eq_true, decide_eq_true_eq] at hm
  obtain ⟨⟨⟨⟨hd, hkn⟩, hdf⟩, hop⟩, hgd⟩ := hm
  unfold stepPO at hs
  split at hs
  · cases hs
  · rename_i hg
    rw [guard_spec h hgd hg]
    simp only [Option.some.injEq] at hs
    subst hs
    refine ⟨fun _ _ => trivial, hK c w _ (Step.refl c w) ?_⟩
    rw [hd]
    exact h.put o.dst undef_rel
  · rename_i hg
    rw [guard_spec h hgd hg]
    rw [hd] at hs
    refine op_any hcE hyE hF h hkn (fun hx => ?_) hop hs hK
    cases ro with
    | none => rfl
    | some l =>
      have := hrd (by simp)
      subst this
      rw [hx] at hdf
      simp at hdf

/-- A region's operations in the order of the text. -/
def PG.matchOps (g : PG) (rd : Bool) (os : Array Oper) : List PPO → List Oper → Bool
  | [], [] => true
  | p :: ps, o :: l => g.matchPO rd os p o && g.matchOps rd os ps l
  | _, _ => false

theorem ops_sound (hcE : CallSound g callE) (hyE : YieldSound g yieldE) (hF : FnsOK g) {rd : Bool} (hrd : ro ≠ none → rd = true) {os : Array Oper} : ∀ (ps : List PPO) (k : Nat) (c : Ctx) (w : World) (fr : Fr) (a : Act), g.matchOps rd os ps (os.toList.drop k) = true → FrRel g c w fr a → runOps g.E callE yieldE ps fr = some fr' → Goes g c w fr' (Q .normal) →
    wpOpsIn (wR ro) n g.P os Q (List.range' k (os.size - k)) a w := by
  intro ps
  induction ps with
  | nil =>
    intro k c w fr a hm h hs hK
    have hl : os.toList.drop k = [] := by
      cases hd : os.toList.drop k with
      | nil => rfl
      | cons x l => rw [hd] at hm; simp [PG.matchOps] at hm
    have hk : os.size - k = 0 := by have := congrArg List.length hl; simpa using this
    rw [hk]
    simp only [runOps, Option.some.injEq] at hs
    subst hs
    exact hK c w a (Step.refl c w) h
  | cons p ps ih =>
    intro k c w fr a hm h hs hK
    have hkl : k < os.size := by
      rcases Nat.lt_or_ge k os.size with hlt | hge
      · exact hlt
      · rw [List.drop_eq_nil_of_le (by simpa using hge)] at hm; simp [PG.matchOps] at hm
    have hdrop : os.toList.drop k = os[k] :: os.toList.drop (k + 1) := by
      rw [List.drop_eq_getElem_cons (by simpa using hkl)]
      simp
    rw [hdrop] at hm
    simp only [PG.matchOps, Bool.and_eq_true] at hm
    simp only [runOps] at hs
    split at hs
    case h_2 => cases hs
    rename_i fr1 hs1
    have hr : List.range' k (os.size - k) = k :: List.range' (k + 1) (os.size - (k + 1)) := by
      rw [show os.size - k = (os.size - (k + 1)) + 1 by omega]
      rfl
    rw [hr]
    simp only [wpOpsIn, Array.getElem?_eq_getElem hkl]
    exact po_sound hcE hyE hF h hrd hm.1 hs1 fun c' w' a' hS hF' => ih (k + 1) c' w' fr1 a' hm.2 hF' hs fun c2 w2 a2 hS2 hF2 => hK c2 w2 a2 (hS.trans hS2) hF2

theorem region_sound (hcE : CallSound g callE) (hyE : YieldSound g yieldE) (hF : FnsOK g) (h : FrRel g c w fr a) {rd : Bool} (hrd : ro ≠ none → rd = true) {id : Nat} {os : Array Oper} {ps : List PPO} (hm : g.matchOps rd os ps os.toList = true) (hs : runOps g.E callE yieldE ps fr = some fr') (hK : Goes g c w fr' (Q .normal)) :
    (Code.region id os false).wpIn (wR ro) n g.P Q a w := by
  refine wpIn_region ?_
  have := ops_sound (n := n) (Q := Q) hcE hyE hF hrd ps 0 c w fr a (by simpa using hm) h hs hK
  rw [List.range_eq_range']
  simpa using this

end Go.VI
