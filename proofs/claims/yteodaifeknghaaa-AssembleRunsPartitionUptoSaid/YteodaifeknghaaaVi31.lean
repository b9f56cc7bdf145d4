/- Calls: how they begin, what they return, their deferred calls. -/
import Derived.Test.YteodaifeknghaaaVi30
namespace Go.VI
variable {g : PG} {c : Ctx} {w : World} {fr fr' : Fr} {a : Act}

theorem hget_push (h : Heap) (k : Nat) (n : Nm) : hget (h ++ [List.replicate k none]) n = hget h n := by
  unfold hget
  rcases Nat.lt_trichotomy n.1 h.length with hl | hl | hl
  · rw [List.getElem?_append_left hl]
  · rw [List.getElem?_append_right (Nat.le_of_eq hl.symm), hl, Nat.sub_self, List.getElem?_eq_none (Nat.le_refl _)]
    simp only [List.getElem?_cons_zero, Option.bind_some, Option.bind_none, List.getElem?_replicate]
    split <;> rfl
  · rw [List.getElem?_append_right (Nat.le_of_lt hl), List.getElem?_eq_none (by simp; omega), List.getElem?_eq_none (Nat.le_of_lt hl)]

theorem HS.push {h : Heap} (hs : HS g c w h) (k : Nat) : HS g c w (h ++ [List.replicate k none]) :=
  ⟨fun n o ho => hs.heap n o (by rwa [hget_push] at ho), hs.wf, fun n hn => hs.hn n (by rwa [hget_push] at hn)⟩

theorem getD_lrel {l : List PV} {vs : Array Value} (h : LRel c w l vs) (i : Nat) (hi : i < l.length) : VRel c w (l.getD i .junk) (vs.getD i undef) := by
  have hi' : i < vs.size := h.1 ▸ hi
  have e1 : l[i]? = some l[i] := List.getElem?_eq_getElem hi
  have e2 : vs[i]? = some vs[i] := Array.getElem?_eq_getElem hi'
  rw [List.getD, e1, Array.getD_eq_getD_getElem?, e2]
  exact h.2 i _ _ e1 e2

/-- A call's frame at its begin. -/
theorem FrRel.start {h : Heap} (hs : HS g c w h) {args : List PV} {vs : Array Value} (hl : LRel c w args vs) (m k lvl : Nat) :
    FrRel g c w { lvl := lvl, tmps := args ++ List.replicate m (.tuple []), heap := h ++ [List.replicate k none], defers := [] } { tmps := vs ++ Array.replicate m undef, defers := [] } := by
  have hs' := hs.push k
  refine ⟨by simp [hl.1], fun i => ?_, hs'.heap, hs'.wf, .nil, hs'.hn⟩
  show VRel c w ((args ++ List.replicate m (PV.tuple [])).getD i .junk) ((vs ++ Array.replicate m undef).getD i undef)
  by_cases hi : i < args.length
  · have := getD_lrel hl i hi
    rw [List.getD, List.getElem?_append_left hi]
    rw [Array.getD_eq_getD_getElem?, Array.getElem?_append_left (hl.1 ▸ hi)]
    rw [List.getD, Array.getD_eq_getD_getElem?] at this
    exact this
  · rw [List.getD, List.getElem?_append_right (by omega), Array.getD_eq_getD_getElem?, Array.getElem?_append_right (by rw [← hl.1]; omega), ← hl.1, List.getElem?_replicate, Array.getElem?_replicate]
    split
    · exact undef_rel
    · exact .i _ _ (.junk _)

/- ## Results -/
def resF (tmps : Array Value) : ResultVar → Sem Value
  | .tmp t => pure (tmps.getD t undef)
  | .cell a t => do loadVar t (← asAddr (tmps.getD a undef))

theorem results_eq (fn : Func) (tmps : Array Value) : results fn tmps = (do let vs ← fn.results.mapM (resF tmps); pure (if h : vs.size = 1 then vs[0] else .tuple vs)) := rfl

def matchRs (P : Program) : List RV → List ResultVar → Bool
  | [], [] => true
  | r :: rs, v :: vs => (match r.cell, v with
    | none, .tmp t => Nat.beq r.t t
    | some k, .cell a ty => Nat.beq r.t a && kOK P ty k
    | _, _ => false) && matchRs P rs vs
  | _, _ => false

theorem res1 {h : Heap} (hs : HS g c w h) {tmps : List PV} {us : Array Value} (ht : ∀ i, VRel c w (tmps.getD i .junk) (us.getD i undef)) {r : RV} {x : ResultVar} (hm : (match r.cell, x with
    | none, .tmp t => Nat.beq r.t t
    | some k, .cell a ty => Nat.beq r.t a && kOK g.P ty k
    | _, _ => false) = true) {v : PV} (hr : rvE h tmps r = some v) : ∃ u, (resF us x).run g.P w = .ok u w ∧ VRel c w v u := by
  unfold rvE at hr
  cases hc : r.cell with
  | none =>
    rw [hc] at hm hr
    simp only [Option.some.injEq] at hr
    cases x with
    | cell a ty => simp at hm
    | tmp t =>
      have := beq_nat hm
      subst this
      exact ⟨_, rfl, hr ▸ ht _⟩
  | some k =>
    rw [hc] at hm hr
    cases x with
    | tmp t => simp at hm
    | cell a ty =>
      simp only [Bool.and_eq_true] at hm
      obtain ⟨h1, hk⟩ := hm
      have := beq_nat h1
      subst this
      have hv := ht r.t
      simp only at hr
      split at hr
      · rename_i cs e
        rw [e] at hv
        obtain ⟨b, o', e1, hcc, _⟩ := cellsAt_ip hv.ip_inv
        obtain ⟨u, hu, hvu⟩ := loadFrom_v (hcc.mono fun _ _ h => VRel.i _ _ h) hk hr
        exact ⟨u, by simp [resF, e1, asAddr, hu], hvu⟩
      · rename_i n gg i off e
        split at hr
        case h_2 => cases hr
        rename_i el g' cl osz hob
        split at hr
        case isFalse => cases hr
        rename_i hgg
        split at hr
        case h_2 => cases hr
        rename_i e' he'
        rw [e] at hv
        subst hgg
        obtain ⟨p, b, hp, hb, e1, hM⟩ := ptr_live (fr := { lvl := 0, tmps := [], heap := h, defers := [] }) hs.heap hv hob
        obtain ⟨u, hu, hvu⟩ := loadFrom_v (((hM.cellsAt hb he').drop off).mono fun _ _ h => h.v) hk hr
        exact ⟨u, by simp [resF, e1, asAddr, hu], hvu⟩
      · cases hr

theorem resL {h : Heap} (hs : HS g c w h) {tmps : List PV} {us : Array Value} (ht : ∀ i, VRel c w (tmps.getD i .junk) (us.getD i undef)) : ∀ (rs : List RV) (xs : List ResultVar) (l : List PV), matchRs g.P rs xs = true → mapO (rvE h tmps) rs = some l →
    ∃ vs : List Value, (xs.mapM (resF us)).run g.P w = .ok vs w ∧ l.length = vs.length ∧ ∀ (i : Nat) v u, l[i]? = some v → vs[i]? = some u → VRel c w v u
  | [], [], l, _, hl => by
    simp only [mapO, Option.some.injEq] at hl
    subst hl
    exact ⟨[], by simp, rfl, fun i v u hv => by simp at hv⟩
  | r :: rs, x :: xs, l, hm, hl => by
    simp only [matchRs, Bool.and_eq_true] at hm
    simp only [mapO] at hl
    split at hl
    · cases hl
    rename_i v0 hv0
    split at hl <;> simp only [Option.some.injEq, reduceCtorEq] at hl
    rename_i l' hl'
    subst hl
    obtain ⟨u0, h1, h2⟩ := res1 hs ht hm.1 hv0
    obtain ⟨vs, h3, h4, h5⟩ := resL hs ht rs xs l' hm.2 hl'
    refine ⟨u0 :: vs, by simp [List.mapM_cons, Sem.run_bind, h1, h3, Result.andThen], by simp [h4], fun i v u hv hu => ?_⟩
    cases i with
    | zero => simp at hv hu; exact hv ▸ hu ▸ h2
    | succ i => exact h5 i v u (by simpa using hv) (by simpa using hu)
  | [], _ :: _, _, hm, _ => by simp [matchRs] at hm
  | _ :: _, [], _, hm, _ => by simp [matchRs] at hm

theorem res_run {h : Heap} (hs : HS g c w h) {tmps : List PV} {us : Array Value} (ht : ∀ i, VRel c w (tmps.getD i .junk) (us.getD i undef)) {rs : List RV} {fn : Func} (hm : matchRs g.P rs fn.results.toList = true) {v : PV} (hr : resultsE h tmps rs = some v) :
    ∃ u, (results fn us).run g.P w = .ok u w ∧ VRel c w v u := by
  unfold resultsE at hr
  have key : ∀ l, mapO (rvE h tmps) rs = some l → ∃ vs : List Value, (results fn us).run g.P w = .ok (if h : vs.toArray.size = 1 then vs.toArray[0] else .tuple vs.toArray) w ∧ l.length = vs.length ∧ ∀ (i : Nat) v u, l[i]? = some v → vs[i]? = some u → VRel c w v u := by
    intro l hl
    obtain ⟨vs, h1, h2, h3⟩ := resL hs ht rs _ l hm hl
    refine ⟨vs, ?_, h2, h3⟩
    rw [results_eq, Array.mapM_eq_mapM_toList]
    simp [h1, Result.andThen]
  split at hr
  · rename_i v0 hl
    simp only [Option.some.injEq] at hr
    subst hr
    obtain ⟨vs, h1, h2, h3⟩ := key _ hl
    match vs, h2, h1, h3 with
    | [u], _, h1, h3 => exact ⟨u, by simpa using h1, h3 0 _ _ rfl rfl⟩
  · rename_i l hne hl
    simp only [Option.some.injEq] at hr
    subst hr
    obtain ⟨vs, h1, h2, h3⟩ := key _ hl
    have h4 : vs.toArray.size ≠ 1 := by
      intro h4
      have h5 : l.length = 1 := by rw [h2]; simpa using h4
      match l, h5 with
      | [v], _ => exact hne v rfl
    refine ⟨.tuple vs.toArray, by rw [h1, dif_neg h4], ?_⟩
    exact .tuple l vs.toArray (by simp [h2]) fun i v u hv hu => h3 i v u hv (by simpa using hu)
  · cases hr

/- ## Memory that nobody of VI's speaks of -/
theorem VRel.same {w' : World} (h : ∀ b, c.imm b → w'.heap[b]? = w.heap[b]?) {v : PV} {u : Value} (hv : VRel c w v u) : VRel c w' v u := by
  induction hv with
  | i v u hi => exact .i _ _ (hi.mono (fun _ h => h) h)
  | agg cs us hl h1 _ ih => exact .agg cs us hl h1 ih
  | tuple cs us hl _ ih => exact .tuple cs us hl ih
  | fn f a b xs ys ha hb _ _ i1 i2 => exact .fn f a b xs ys ha hb i1 i2
  | slStale n g off len u hg h1 => exact .slStale n g off len u hg h1
  | slNil n g p hg hp hb => exact .slNil n g p hg hp hb
  | sl n g off len p b hg hp hb hl => exact .sl n g off len p b hg hp hb hl
  | slE n g off p A hg hp hl => exact .slE n g off p A hg hp hl
  | ptrStale n g i off u hg h1 => exact .ptrStale n g i off u hg h1
  | ptr n g i off p b hg hp hb => exact .ptr n g i off p b hg hp hb
  | mapStale n g u hg h1 => exact .mapStale n g u hg h1
  | map n g p b hg hp hb => exact .map n g p b hg hp hb
  | yldStale n g u hg h1 => exact .yldStale n g u hg h1
  | yld n g p b hg hp hb => exact .yld n g p b hg hp hb

theorem HS.same {w' : World} {h : Heap} (hs : HS g c w h) (hz : w.heap.size ≤ w'.heap.size) (hi : ∀ b, c.imm b → w'.heap[b]? = w.heap[b]?) (ho : ∀ n p b, c.obj n = some p → p.blk = some b → w'.heap[b]? = w.heap[b]?) : HS g c w' h := by
  refine ⟨fun n ob hg => ?_, ⟨fun n p b h1 h2 => Nat.lt_of_lt_of_le (hs.wf.lt n p b h1 h2) hz, hs.wf.inj, hs.wf.apart, fun b hb => Nat.lt_of_lt_of_le (hs.wf.ilt b hb) hz, fun i v hv => (hs.wf.glob i v hv).mono (fun _ h => h) hi⟩, hs.hn⟩
  have hr := hs.heap n ob hg
  cases ob with
  | mem el gg cl osz =>
    obtain ⟨h1, h2⟩ := hr
    refine ⟨h1, fun p hp => ?_⟩
    have hm := h2 p hp
    refine ⟨hm.osz, hm.nil, hm.cap, hm.sz, fun b hb => ?_⟩
    obtain ⟨arr, E, h3, h4, h5⟩ := hm.row b hb
    refine ⟨arr, E, (ho n p b hp hb).trans h3, h4, fun i j e cv he hj => ?_⟩
    obtain ⟨u, h6, h7, h8⟩ := h5 i j e cv he hj
    refine ⟨u, h6, h7, ?_⟩
    cases cl
    · exact VRel.same hi h8
    · exact IRel.mono (fun _ h => h) hi h8
  | map es clock gg =>
    obtain ⟨h1, h2⟩ := hr
    refine ⟨h1, fun p hp => ?_⟩
    obtain ⟨b, arr, h3, h4, h5, h6⟩ := h2 p hp
    exact ⟨b, arr, h3, (ho n p b hp h3).trans h4, h5, fun i e x he hx => ⟨(h6 i e x he hx).1.mono (fun _ h => h) hi, (h6 i e x he hx).2.mono (fun _ h => h) hi⟩⟩
  | loop tmps params assign body jump gg =>
    obtain ⟨h1, h2⟩ := hr
    refine ⟨h1, fun p hp => ?_⟩
    obtain ⟨b, h3, l, h4, h5, h6, h7, h8⟩ := h2 p hp
    exact ⟨b, h3, l, (ho n p b hp h3).trans h4, h5, h6, fun i => VRel.same hi (h7 i), h8⟩
  | dead gg => exact hr

theorem DefRel.put {lo r : Nat} {ob : Obj} (hi : ¬ c.imm r) {ds : List (Option (Nat × List PV))} {xs : List Deferred} (h : DefRel lo c w ds xs) (hx : ∀ d ∈ xs, d.target ≠ .collected r) : DefRel lo c (w.putObj r ob) ds xs := by
  have him : ∀ b, c.imm b → (w.putObj r ob).heap[b]? = w.heap[b]? := fun b hb => World.putObj_heap_other fun e => hi (e ▸ hb)
  induction h with
  | nil => exact .nil
  | cons d x ds xs hd _ ih =>
    obtain ⟨caps, h1, h2, h3⟩ := hd.ex
    exact .cons d x ds xs ⟨caps, h1, h2, fun i v u hv hu => (h3 i v u hv hu).same him⟩ (ih fun d hd => hx d (List.mem_cons_of_mem _ hd))
  | mark r2 ds xs hlo hr ho hi2 hx2 _ ih =>
    refine .mark r2 ds xs hlo ((World.putObj_heap_other fun e => ?_).trans hr) ho hi2 hx2 (ih fun d hd => hx d (List.mem_cons_of_mem _ hd))
    exact hx _ (List.mem_cons_self ..) (by rw [e])

theorem DefRel.lt {lo : Nat} {ds : List (Option (Nat × List PV))} {xs : List Deferred} (h : DefRel lo c w ds xs) : ∀ d ∈ xs, d.target ≠ .collected w.heap.size := by
  induction h with
  | nil => intro d hd; cases hd
  | cons d x ds xs hd _ ih =>
    intro y hy
    rcases List.mem_cons.1 hy with e | hy
    · obtain ⟨caps, h1, _⟩ := hd.ex
      rw [e, h1]
      intro h2
      cases h2
    · exact ih y hy
  | mark r ds xs hlo hr ho hi hx _ ih =>
    intro y hy
    rcases List.mem_cons.1 hy with e | hy
    · rw [e]
      intro h2
      simp only [Target.collected.injEq] at h2
      have := agetElem?_some_lt hr
      omega
    · exact ih y hy

/- ## Deferred calls -/
def CD (g : PG) : FuncId → Array Value → World → (Ending → World → Prop) → Prop := fun f vs w R => ∀ n, CallsDIn Fence.wide n g.P f vs .returning w (fun e u' w' => u' = .returning ∧ R e w')

theorem CD.mono {f : FuncId} {vs : Array Value} {R R' : Ending → World → Prop} (h : CD g f vs w R) (hr : ∀ e w', R e w' → R' e w') : CD g f vs w R' :=
  fun n => (h n).mono fun e _ w' hx => ⟨hx.1, hr e w' hx.2⟩

def DefSound (g : PG) (k : Nat) : Prop := ∀ (ds : List (Option (Nat × List PV))) (h h' : Heap), defN g.E k ds h = some h' → ∀ (lo n : Nat) (fn : Func) (tmps : Array Value) (R : Ending → World → Prop) (xs : List Deferred) (c : Ctx) (w : World), DefRel lo c w ds xs → HS g c w h →
  (∀ c' w', (∀ v u, VRel c w v u → VRel c' w' v u) → (∀ c0 (w0 : World), w0.heap.size ≤ lo → Step N0 c0 w0 c w → Step N0 c0 w0 c' w') → HS g c' w' h' → ∃ v, (results fn tmps).run g.P w' = .ok v w' ∧ R (.returned v) w') →
  LeavesInM Fence.wide n g.P fn tmps R xs .returning w

theorem step_put {c0 : Ctx} {w0 : World} {r lo : Nat} {ob : Obj} (hlo : lo ≤ r) (hz : w0.heap.size ≤ lo) (h : Step N0 c0 w0 c w) : Step N0 c0 w0 c (w.putObj r ob) where
  size := by rw [World.putObj_size]; exact h.size
  os := h.os
  out := h.out
  gen := h.gen
  obj := h.obj
  phan := h.phan
  imm := h.imm
  immNew := h.immNew
  objNew := h.objNew
  frame b hb hno := (World.putObj_heap_other (fun e => by omega)).trans (h.frame b hb hno)

theorem def_succ {k : Nat} (hcD : CallSoundP (CD g) g (callD g.E k)) (hD : DefSound g k) (hF : FnsOK g) : DefSound g (k + 1) := by
  intro ds h h' hs lo n fn tmps R xs c w hdr hh hK
  cases hdr with
  | nil =>
    simp only [defN, Option.some.injEq] at hs
    subst hs
    obtain ⟨v, h1, h2⟩ := hK c w (fun _ _ h => h) (fun _ _ _ h => h) hh
    exact ⟨v, h1, h2⟩
  | mark r ds xs hlo hr ho hi hx t =>
    simp only [defN] at hs
    have him : ∀ b, c.imm b → (w.putObj r (.deferred none)).heap[b]? = w.heap[b]? := fun b hb => World.putObj_heap_other fun e => hi (e ▸ hb)
    refine ⟨by simp, .inl ⟨r, _, rfl, run_takeDeferred hr, ?_⟩⟩
    refine hD ds h h' hs lo n fn tmps R xs c _ (t.put hi hx) (hh.same (by rw [World.putObj_size]; exact Nat.le_refl _) him fun m p b hp hb => World.putObj_heap_other fun e => ho m p hp (e ▸ hb)) fun c' w' hv hst hs' => ?_
    exact hK c' w' (fun v u hvu => hv v u (hvu.same him)) (fun c0 w0 hz h0 => hst c0 w0 hz (step_put hlo hz h0)) hs'
  | cons d x ds xs hd t =>
    obtain ⟨f, args⟩ := d
    simp only [defN] at hs
    split at hs
    case h_2 => cases hs
    rename_i v1 h1 hc1
    obtain ⟨caps, e1, hl⟩ := hd.ex
    have hcall := doCall_soundP (C := CD g) CD.mono hcD f args h v1 h1 hc1 c w (x.args ++ caps) hh hl
    have hpf : ∃ pf, g.E.pf f = some pf := by
      unfold doCall at hc1
      split at hc1
      · cases hc1
      · rename_i pf hpf; exact ⟨pf, hpf⟩
    obtain ⟨pf, hpf⟩ := hpf
    obtain ⟨fn', code, h2, h3, h4⟩ := hF f pf hpf
    refine ⟨by simp, .inr ⟨fun hx => by simp [Fence.wide] at hx, .func f, caps, f, x.args ++ caps, e1, by rw [e1]; simp [invoke, run_callFunc' h2 h3 h4], fun _ _ => trivial, ?_⟩⟩
    refine (hcall (n - 1)).mono fun e u' w' hx => ?_
    obtain ⟨rfl, u, c', rfl, hS, hH, _⟩ := hx
    show LeavesInM Fence.wide n g.P fn tmps R xs .returning w'
    exact hD ds h1 h' hs lo n fn tmps R xs c' w' (DefRel.step hS hh.wf heap_lt t) hH fun c2 w2 hv hst hs2 =>
      hK c2 w2 (fun v u hvu => hv v u (hvu.step hS hh.wf)) (fun c0 w0 hz h0 => hst c0 w0 hz (h0.trans hS)) hs2

/-- Which function of the program's stands for which of VI's. -/
def PG.fnOK (g : PG) (f : Nat) (pf : PFn) : Bool :=
  match g.P.funcs[f]? with
  | some fn => (match fn.body with
    | some code => !(fn.name == "runtime.NumGoroutine") && g.matchC false pf.body code && Nat.beq fn.ntmps pf.ntmps && matchRs g.P pf.results fn.results.toList
    | none => false)
  | none => false

def FnsM (g : PG) : Prop := ∀ f pf, g.E.pf f = some pf → g.fnOK f pf = true

theorem PG.fnOK_spec {f : Nat} {pf : PFn} (h : g.fnOK f pf = true) : ∃ fn code, g.P.funcs[f]? = some fn ∧ fn.body = some code ∧ fn.name ≠ "runtime.NumGoroutine" ∧ g.matchC false pf.body code = true ∧ fn.ntmps = pf.ntmps ∧ matchRs g.P pf.results fn.results.toList = true := by
  unfold PG.fnOK at h
  split at h
  case h_2 => cases h
  rename_i fn hfn
  split at h
  case h_2 => cases h
  rename_i code hb
  simp only [Bool.and_eq_true, Bool.not_eq_true', beq_eq_false_iff_ne] at h
  exact ⟨fn, code, hfn, hb, h.1.1.1, h.1.1.2, beq_nat h.1.2, h.2⟩

theorem FnsM.ok (h : FnsM g) : FnsOK g := fun f pf hp => let ⟨fn, code, h1, h2, h3, _⟩ := PG.fnOK_spec (h f pf hp); ⟨fn, code, h1, h2, h3⟩

theorem call_succ {k : Nat} (hE : ∀ lo, EvSound (g.at lo) k) (hD : DefSound g k) (hF : ∀ lo, FnsM (g.at lo)) : CallSound g (callN g.E (k + 1)) := by
  intro f args h v h' hd c w vs hs hl
  simp only [callN] at hd
  split at hd
  · cases hd
  rename_i pf hpf
  split at hd
  case isFalse => cases hd
  rename_i hnp
  obtain ⟨fn, code, h1, h2, h3, h4, h5, h6⟩ := PG.fnOK_spec (hF w.heap.size f pf hpf)
  have hvs : vs.size = pf.nparams := hl.1 ▸ hnp
  refine (callsIn_wide (n := 0)).1 (callsIn_of_wp_marks h1 h2 trivial ?_)
  rw [h5, hvs]
  have hst : FrRel (g.at w.heap.size) c w { lvl := h.length, tmps := args ++ List.replicate (pf.ntmps - pf.nparams) (.tuple []), heap := h ++ [List.replicate pf.nobjs none], defers := [] } { tmps := vs ++ Array.replicate (pf.ntmps - pf.nparams) undef, defers := [] } :=
    FrRel.start (g := g.at w.heap.size) ⟨hs.heap, hs.wf, hs.hn⟩ hl _ _ _
  have fin : ∀ (ex : PEx) (fr : Fr), evN g.E k pf.body { lvl := h.length, tmps := args ++ List.replicate (pf.ntmps - pf.nparams) (.tuple []), heap := h ++ [List.replicate pf.nobjs none], defers := [] } = some (ex, fr) → ex = .norm ∨ ex = .ret →
      (match defN g.E k fr.defers fr.heap with
        | some h' => (match resultsE h' fr.tmps pf.results with
          | some v => some (v, h')
          | none => none)
        | none => none) = some (v, h') →
      code.wpIn Fence.wide 0 g.P (bodyPostM Fence.wide 0 g.P fn (CallR g c w h' v)) { tmps := vs ++ Array.replicate (pf.ntmps - pf.nparams) undef, defers := [] } w := by
    intro ex fr he hex hd
    split at hd
    case h_2 => cases hd
    rename_i h2' hdef
    split at hd <;> simp only [Option.some.injEq, reduceCtorEq, Prod.mk.injEq] at hd
    rename_i v' hres
    obtain ⟨rfl, rfl⟩ := hd
    have hQ : Goes (g.at w.heap.size) c w fr (fun a' w' => LeavesInM Fence.wide 0 g.P fn a'.tmps (CallR g c w h2' v') a'.defers .returning w') := by
      intro c1 w1 a1 hS1 hF1
      refine hD fr.defers fr.heap h2' hdef w.heap.size 0 fn a1.tmps _ a1.defers c1 w1 hF1.defs ⟨hF1.heap, hF1.wf, hF1.hn⟩ fun c2 w2 hv hstp hs2 => ?_
      obtain ⟨u, hu, hvu⟩ := res_run (g := g) hs2 (fun i => hv _ _ (hF1.tmps i)) h6 hres
      exact ⟨u, hu, u, c2, rfl, hstp c w (Nat.le_refl _) hS1, hs2, hvu⟩
    refine hE w.heap.size pf.body _ ex fr he false none 0 code c w _ _ h4 (fun h => absurd rfl h) (Nat.le_refl _) hst ?_
    rcases hex with rfl | rfl <;> exact hQ
  split at hd
  · rename_i fr he
    exact fin _ fr he (.inl rfl) hd
  · rename_i fr he
    exact fin _ fr he (.inr rfl) hd
  · cases hd

theorem callD_succ {k : Nat} (hE : ∀ lo, EvSound (g.at lo) k) (hF : ∀ lo, FnsM (g.at lo)) : CallSoundP (CD g) g (callD g.E (k + 1)) := by
  intro f args h v h' hd c w vs hs hl
  simp only [callD] at hd
  split at hd
  · cases hd
  rename_i pf hpf
  split at hd
  case isFalse => cases hd
  rename_i hnp
  obtain ⟨fn, code, h1, h2, h3, h4, h5, h6⟩ := PG.fnOK_spec (hF w.heap.size f pf hpf)
  have hvs : vs.size = pf.nparams := hl.1 ▸ hnp
  intro n
  refine callsDIn_of_wp h1 h2 trivial ?_
  rw [h5, hvs]
  have hst : FrRel (g.at w.heap.size) c w { lvl := h.length, tmps := args ++ List.replicate (pf.ntmps - pf.nparams) (.tuple []), heap := h ++ [List.replicate pf.nobjs none], defers := [] } { tmps := vs ++ Array.replicate (pf.ntmps - pf.nparams) undef, defers := [] } :=
    FrRel.start (g := g.at w.heap.size) ⟨hs.heap, hs.wf, hs.hn⟩ hl _ _ _
  have fin : ∀ (ex : PEx) (fr : Fr), evN g.E k pf.body { lvl := h.length, tmps := args ++ List.replicate (pf.ntmps - pf.nparams) (.tuple []), heap := h ++ [List.replicate pf.nobjs none], defers := [] } = some (ex, fr) → ex = .norm ∨ ex = .ret →
      (if fr.defers.isEmpty then (match resultsE fr.heap fr.tmps pf.results with
          | some v => some (v, fr.heap)
          | none => none) else none) = some (v, h') →
      code.wpIn Fence.wide n g.P (bodyPost g.P fn (CallR g c w h' v)) { tmps := vs ++ Array.replicate (pf.ntmps - pf.nparams) undef, defers := [] } w := by
    intro ex fr he hex hd
    split at hd
    case isFalse => cases hd
    rename_i hemp
    split at hd <;> simp only [Option.some.injEq, reduceCtorEq, Prod.mk.injEq] at hd
    rename_i v' hres
    obtain ⟨rfl, rfl⟩ := hd
    have hQ : Goes (g.at w.heap.size) c w fr (fun a' w' => a'.defers = [] ∧ ∃ u, (results fn a'.tmps).run g.P w' = .ok u w' ∧ CallR g c w fr.heap v' (.returned u) w') := by
      intro c1 w1 a1 hS1 hF1
      have hs1 : HS g c1 w1 fr.heap := ⟨hF1.heap, hF1.wf, hF1.hn⟩
      obtain ⟨u, hu, hvu⟩ := res_run (g := g) hs1 hF1.tmps h6 hres
      refine ⟨?_, u, hu, u, c1, rfl, hS1, hs1, hvu⟩
      have h7 := hF1.defs
      have h8 : fr.defers = [] := by simpa using hemp
      rw [h8] at h7
      generalize a1.defers = xs at h7
      cases h7
      rfl
    refine hE w.heap.size pf.body _ ex fr he false none n code c w _ _ h4 (fun h => absurd rfl h) (Nat.le_refl _) hst ?_
    rcases hex with rfl | rfl <;> exact hQ
  split at hd
  · rename_i fr he
    exact fin _ fr he (.inl rfl) hd
  · rename_i fr he
    exact fin _ fr he (.inr rfl) hd
  · cases hd

end Go.VI
