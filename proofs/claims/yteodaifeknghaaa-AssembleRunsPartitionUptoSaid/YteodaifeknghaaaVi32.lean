/- Ranges over functions; the evaluator is sound. -/
import Derived.Test.YteodaifeknghaaaVi31
namespace Go.VI
variable {g : PG} {c : Ctx} {w : World} {fr fr' : Fr} {a : Act}

theorem loop_of {h : Heap} (hs : HRel g.MC c h w) {nm : Nm} {tmps : List PV} {params : List Nat} {assign body : PC} {jump : Option PEx} {gg : Nat} (ho : hget h nm = some (.loop tmps params assign body jump gg)) {p : Place} {b : Nat} (hp : c.obj nm = some p) (hb : p.blk = some b) :
    c.gen nm = gg ∧ LoopRel c w b tmps params g.MC assign body jump := by
  obtain ⟨h1, h2⟩ := hs nm _ ho
  obtain ⟨b', h3, h4⟩ := h2 p hp
  rw [hb] at h3
  simp only [Option.some.injEq] at h3
  exact ⟨h1, h3 ▸ h4⟩

theorem loopRel_put {c' : Ctx} {b : Nat} {tmps : List PV} {params : List Nat} {assign body : PC} {jump jump' : Option PEx} {MC : PC → Code → Prop} {l : Loop} (hb : w.heap[b]? = some (.loop l)) (h : LoopRel c w b tmps params MC assign body jump) {st : LoopState} {pn : Option Code}
    (hv : ∀ v u, VRel c w v u → VRel c' (w.putObj b (.loop { l with state := st, pending := pn })) v u)
    (hj : match jump' with
     | none => st = .ready ∧ pn = none
     | some .norm => st = .busy
     | some (.exit id) => st = .done ∧ pn = some (.exit id)
     | some .ret => st = .done ∧ pn = some .ret) :
    LoopRel c' (w.putObj b (.loop { l with state := st, pending := pn })) b tmps params MC assign body jump' := by
  obtain ⟨l', h1, h2, h3, h4, h5, h6, _⟩ := h
  rw [hb] at h1
  simp only [Option.some.injEq, Obj.loop.injEq] at h1
  subst h1
  exact ⟨_, World.putObj_heap_same (agetElem?_some_lt hb), h2, h3, fun i => hv _ _ (h4 i), h5, h6, hj⟩

/-- An object's record is written. -/
theorem put_redo {n : Nm} {p : Place} {b k : Nat} {x : Obj} (hp : c.obj n = some p) (hb : p.blk = some b) (hk : c.gen n ≤ k) : Redo c w (w.putObj b x) n p p k := setObj_redo hp hb hk

theorem rangef_sound {k : Nat} (hMC : ∀ p x, g.matchC true p x = true → g.MC p x) (hcE : CallSound g (callN g.E k)) (hF : FnsOK g)
    (s : Nat) (f : PX) (ps : List Nat) (p q : PC) (fr : Fr) (ex : PEx) (fr' : Fr) (hs : evN g.E (k + 1) (.rangef s f ps p q) fr = some (ex, fr')) (n : Nat) (code : Code) (c : Ctx) (w : World) (a : Act) (Q : Exit → Act → World → Prop)
    (hm : g.matchC false (.rangef s f ps p q) code = true) (hlo : g.lo ≤ w.heap.size) (h : FrRel g c w fr a) (hK : Goes g c w fr' (Q (exitOf ex))) : code.wpIn (wR none) n g.P Q a w := by
  cases code with
  | rangeFunc f' ps' x y =>
    simp only [PG.matchC, Bool.and_eq_true, decide_eq_true_eq] at hm
    obtain ⟨⟨⟨⟨_, hfx⟩, hps⟩, hmx⟩, hmy⟩ := hm
    simp only [evN] at hs
    split at hs
    case isFalse => cases hs
    rename_i hlen
    split at hs
    case h_2 => cases hs
    rename_i f0 pp qq hfe
    split at hs
    case h_2 => cases hs
    rename_i v h2 hcall
    split at hs
    case h_2 => cases hs
    rename_i tmps2 ps2 as2 bd2 j g2 hob2
    split at hs
    case isFalse => cases hs
    rename_i hg2
    subst hg2
    generalize hG : nextGen fr.heap (fr.nm s) = G at hs hcall hob2
    have hgen : c.gen (fr.nm s) < G := hG ▸ h.next (fr.nm s)
    -- the loop's record
    refine wpIn_rangeFunc fun fn _ => ?_
    obtain ⟨rec, hrec⟩ : ∃ rec : Loop, rec = { state := .ready, pending := none, fn, tmps := a.tmps, params := ps', assign := x, body := y, defers := w.heap.size } := ⟨_, rfl⟩
    obtain ⟨w1, hw1⟩ : ∃ w1 : World, w1 = (w.alloc (.deferred (some []))).alloc (.loop rec) := ⟨_, rfl⟩
    have hM : More w w1 := hw1 ▸ (More.alloc _ _).trans (More.alloc _ _)
    have hz1 : w1.heap.size = w.heap.size + 2 := by simp [hw1]
    have hl1 : w1.heap[w.heap.size + 1]? = some (.loop rec) := by
      have := alloc_heap (w.alloc (.deferred (some []))) (.loop rec)
      rwa [World.size_alloc, ← hw1] at this
    have hd1 : w1.heap[w.heap.size]? = some (.deferred (some [])) := by
      have h3 := (More.alloc (w.alloc (.deferred (some []))) (.loop rec)).same w.heap.size (by simp)
      rw [← hw1] at h3
      exact h3.trans (alloc_heap _ _)
    have henter : (Instr.enterLoop fn a.tmps ps' x y none).run g.P w = .ok (w.heap.size + 1, [{ target := .collected w.heap.size, args := #[] }]) w1 := by
      rw [hw1, hrec]; exact run_enterLoop_outer ..
    let P0 : Place := ⟨some (w.heap.size + 1), 0, 0, 0⟩
    have hFit : Fits w w1 (some P0) := by
      intro q' b hq hb
      simp only [Option.some.injEq] at hq
      subst hq
      simp only [P0, Option.some.injEq] at hb
      omega
    have hR : Room c (fr.nm s) G := ⟨Nat.le_of_lt hgen, fun e => by omega⟩
    have hSl := step_lay hM hR hFit
    have hobj : (c.lay (fr.nm s) G (some P0)).obj (fr.nm s) = some P0 := Ctx.lay_obj_self ..
    have hF1 : FrRel g (c.lay (fr.nm s) G (some P0)) w1 { fr with heap := hset fr.heap (fr.nm s) (.loop fr.tmps ps p q none G) } a := by
      refine FrRel.lay h hR hlen hM hFit ⟨Ctx.lay_gen_self .., fun p' hp' => ?_⟩
      rw [hobj] at hp'
      simp only [Option.some.injEq] at hp'
      subst hp'
      exact ⟨w.heap.size + 1, rfl, rec, hl1, by rw [hrec]; exact hps.symm, by rw [hrec]; exact h.size, fun i => by rw [hrec]; exact (h.tmps i).step hSl h.wf, by rw [hrec]; exact hMC _ _ hmx, by rw [hrec]; exact hMC _ _ hmy, by rw [hrec], by rw [hrec]⟩
    have hS1 : Step N0 c w (c.lay (fr.nm s) G (some P0)) w1 := step_lay0 hM hgen hFit
    -- the call
    have hfv := hF1.x hfx
    simp only [hfe] at hfv
    obtain ⟨xs, ys, e1, hx, hy⟩ := hfv.fn_inv
    have hyl : LRel (c.lay (fr.nm s) G (some P0)) w1 [.yld (fr.nm s) G] #[.func (.yield (w.heap.size + 1)) #[] #[]] := by
      refine ⟨rfl, fun i v u hv hu => ?_⟩
      cases i with
      | zero =>
        simp at hv hu
        subst hv hu
        exact .yld _ _ P0 _ (by rw [Ctx.lay_gen_self]; exact Nat.le_refl _) hobj rfl
      | succ i => simp at hv
    have hpf : ∃ pf, g.E.pf f0 = some pf := by
      unfold doCall at hcall
      split at hcall
      · cases hcall
      · rename_i pf hpf; exact ⟨pf, hpf⟩
    obtain ⟨pf, hpf⟩ := hpf
    obtain ⟨fn', code', h3, h4, h5⟩ := hF f0 pf hpf
    have hC := doCall_sound hcE f0 (pp ++ [.yld (fr.nm s) G] ++ qq) _ v h2 hcall _ w1 (xs ++ #[.func (.yield (w.heap.size + 1)) #[] #[]] ++ ys) hF1.hs ((hx.append hyl).append hy)
    have hres : (resolve a.eval (rangeCall f' (w.heap.size + 1)) 0).run g.P w1 = .ok { target := .fn (.func f0) ys, args := xs ++ #[.func (.yield (w.heap.size + 1)) #[] #[]] } w1 := by
      have e2 : a.eval (.const (.func (.yield (w.heap.size + 1)) #[] #[])) = .func (.yield (w.heap.size + 1)) #[] #[] := rfl
      simp [resolve, Deferred.ofValue, e1, e2]
    have hinv : (invoke (.fn (.func f0) ys) (xs ++ #[.func (.yield (w.heap.size + 1)) #[] #[]])).run g.P w1 = .ok (.enter f0 (xs ++ #[.func (.yield (w.heap.size + 1)) #[] #[]] ++ ys)) w1 := by
      simp [invoke, run_callFunc' h3 h4 h5]
    refine ⟨_, _, w1, _, w1, _, _, w1, henter, hres, fun _ _ => trivial, hinv, (fun hx => by simp [wR] at hx), callsIn_wR (callsMono hC fun e w2 hR2 => ?_)⟩
    obtain ⟨u, c2, rfl, hS2, hH2, _⟩ := hR2
    have hg2 := (hH2.heap _ _ hob2).gen
    simp only [Ob.gen] at hg2
    have hobj2 : c2.obj (fr.nm s) = some P0 := (hS2.obj _ (fun x => x) (by rw [hg2, Ctx.lay_gen_self])).trans hobj
    obtain ⟨_, lr, hlr, _, _, _, _, _, hst⟩ := loop_of (g := g) hH2.heap hob2 hobj2 rfl
    have hjn : j ≠ some .norm := by
      intro e
      subst e
      simp at hs
    have hnb : lr.state ≠ .busy := by
      cases j with
      | none => simp only at hst; rw [hst.1]; simp
      | some e => cases e <;> simp_all
    obtain ⟨w4, hw4⟩ : ∃ w4, w4 = w2.putObj (w.heap.size + 1) (.loop { lr with state := .exhausted }) := ⟨_, rfl⟩
    have hend := run_endLoop (P := g.P) hlr hnb
    rw [← hw4] at hend
    refine ⟨lr.pending, w4, hend, ?_⟩
    have noR : ∀ m p', (c.lay (fr.nm s) G (some P0)).obj m = some p' → p'.blk ≠ some w.heap.size := by
      intro m p' hp' hb'
      by_cases hmn : m = fr.nm s
      · subst hmn
        rw [hobj] at hp'
        simp only [Option.some.injEq] at hp'
        subst hp'
        simp [P0] at hb'
      · rw [Ctx.lay_obj _ _ _ hmn] at hp'
        have := h.wf.lt m p' _ hp' hb'
        omega
    have hF2 : FrRel g c2 w2 { fr with heap := h2, defers := none :: fr.defers } { a with defers := [{ target := .collected w.heap.size, args := #[] }] ++ a.defers } := by
      refine ⟨h.size, fun i => (hF1.tmps i).step hS2 hF1.wf, hH2.heap, hH2.wf, ?_, hH2.hn⟩
      refine .mark w.heap.size fr.defers a.defers hlo ((hS2.frame _ (by rw [hz1]; omega) noR).trans hd1) (fun m p' hp' hb' => ?_) (fun hi => ?_) h.defs.lt (DefRel.step hS2 hF1.wf heap_lt hF1.defs)
      · rcases hS2.objNew m p' _ hp' hb' with h6 | ⟨m', q', h6, h7⟩
        · omega
        · exact noR m' q' h6 h7
      · rcases hS2.immNew _ hi with h6 | h6 | ⟨m', q', h6, h7⟩
        · have : c.imm w.heap.size := h6
          have := h.wf.ilt _ this
          omega
        · omega
        · exact noR m' q' h6 h7
    have hredo : Redo c2 w2 w4 (fr.nm s) P0 P0 (G + 1) := hw4 ▸ put_redo hobj2 rfl (by rw [hg2]; exact Nat.le_succ _)
    have hF3 := hF2.redo hredo hob2 (ob := .dead (G + 1)) (Ctx.lay_gen_self ..)
    have hfin := (hS1.trans hS2).trans hredo.step
    cases j with
    | none =>
      simp only [Option.some.injEq, Prod.mk.injEq] at hs
      obtain ⟨rfl, rfl⟩ := hs
      simp only at hst
      simp only [hst.2]
      exact hK _ _ _ hfin hF3
    | some e =>
      cases e with
      | norm => exact absurd rfl hjn
      | exit id =>
        simp only [Option.some.injEq, Prod.mk.injEq] at hs
        obtain ⟨rfl, rfl⟩ := hs
        simp only at hst
        simp only [hst.2]
        exact wpIn_exit (hK _ _ _ hfin hF3)
      | ret =>
        simp only [Option.some.injEq, Prod.mk.injEq] at hs
        obtain ⟨rfl, rfl⟩ := hs
        simp only at hst
        simp only [hst.2]
        exact wpIn_ret (hK _ _ _ hfin hF3)
  | _ => simp only [PG.matchC, Bool.false_eq_true] at hm

theorem foldl_set {f : List PV → Nat × PV → List PV} (hf : f = fun t p => t.set p.1 p.2) : ∀ (ps : List Nat) (args : List PV) (vs : List Value) (t : List PV) (tm : Array Value), args.length = vs.length → (∀ (i : Nat) v u, args[i]? = some v → vs[i]? = some u → VRel c w v u) →
    t.length = tm.size → (∀ i, VRel c w (t.getD i .junk) (tm.getD i undef)) →
    ((ps.zip args).foldl f t).length = ((ps.zip vs).foldl (fun t p => t.setIfInBounds p.1 p.2) tm).size ∧ ∀ i, VRel c w (((ps.zip args).foldl f t).getD i .junk) (((ps.zip vs).foldl (fun t p => t.setIfInBounds p.1 p.2) tm).getD i undef)
  | [], args, vs, t, tm, _, _, h3, h4 => ⟨h3, h4⟩
  | p :: ps, [], [], t, tm, _, _, h3, h4 => ⟨h3, h4⟩
  | p :: ps, v :: args, u :: vs, t, tm, h1, h2, h3, h4 => by
    simp only [List.zip_cons_cons, List.foldl_cons]
    refine foldl_set hf ps args vs _ _ (by simpa using h1) (fun i v u hv hu => h2 (i + 1) v u (by simpa using hv) (by simpa using hu)) (by simp [hf, h3]) fun i => ?_
    rw [hf]
    rcases getD_set t tm p v u h3 i with ⟨e1, e2⟩ | ⟨e1, e2⟩
    · show VRel c w ((t.set p v).getD i .junk) _
      rw [e1, e2]
      exact h2 0 v u rfl rfl
    · show VRel c w ((t.set p v).getD i .junk) _
      rw [e1, e2]
      exact h4 i
  | _ :: _, [], _ :: _, _, _, h1, _, _, _ => by simp at h1
  | _ :: _, _ :: _, [], _, _, h1, _, _, _ => by simp at h1

theorem yield_succ {k : Nat} (hE : ∀ lo, EvSound (g.at lo) k) (hMC : ∀ p x, g.MC p x → ∀ lo, (g.at lo).matchC true p x = true) : YieldSound g (yieldN g.E (k + 1)) := by
  intro nm args h v h' hd c w vs b p hs hl hp hb
  simp only [yieldN] at hd
  split at hd
  case h_2 => cases hd
  rename_i tmps ps as bd G hob
  split at hd
  case isFalse => cases hd
  rename_i hlen
  split at hd
  case h_2 => cases hd
  rename_i fr1 he1
  split at hd
  case h_2 => cases hd
  rename_i tmps1 ps1 as1 bd1 g1 hob1
  split at hd
  case isFalse => cases hd
  rename_i hg1
  subst hg1
  split at hd
  case h_2 => cases hd
  rename_i ex fr2 he2
  split at hd
  case h_2 => cases hd
  rename_i tmps2 ps2 as2 bd2 g2 hob2
  split at hd
  case isFalse => cases hd
  rename_i hg2
  subst hg2
  generalize her : endRoundE ex = jr at hd
  obtain ⟨j, v'⟩ := jr
  simp only at hd
  split at hd <;> simp only [Option.some.injEq, reduceCtorEq, Prod.mk.injEq] at hd
  rename_i hlow
  obtain ⟨rfl, rfl⟩ := hd
  obtain ⟨hgen, l, hl1, hl2, hl3, hl4, hl5, hl6, hst⟩ := loop_of (g := g) hs.heap hob hp hb
  have hsz : vs.size = l.params.size := by
    rw [← hl.1, hlen, ← hl2]
    simp
  refine ⟨l.fn, _, l.assign, l.body, run_yield hl1 hsz, fun n => roundIn_of_wpIn trivial ?_⟩
  show l.assign.wpIn (wR (some b)) n g.P _ _ w
  have hs' := hs.push (h.getD nm.1 []).length
  have hF0 : FrRel (g.at 0) c w { lvl := h.length, tmps := (ps.zip args).foldl (fun t p => t.set p.1 p.2) tmps, heap := h ++ [List.replicate (h.getD nm.1 []).length none], defers := [] }
      { tmps := (l.params.zip vs).foldl (fun tmps (t, a) => tmps.setIfInBounds t a) l.tmps, defers := [] } := by
    have hfold := foldl_set (c := c) (w := w) rfl ps args vs.toList tmps l.tmps (by rw [hl.1]; simp) (fun i v u hv hu => hl.2 i v u hv (by simpa using hu)) hl3 hl4
    have e : (l.params.zip vs).foldl (fun tmps (t, a) => tmps.setIfInBounds t a) l.tmps = (ps.zip vs.toList).foldl (fun t p => t.setIfInBounds p.1 p.2) l.tmps := by
      rw [← Array.foldl_toList, Array.toList_zip, hl2]
    rw [e]
    exact ⟨hfold.1, hfold.2, hs'.heap, hs'.wf, .nil, hs'.hn⟩
  refine hE 0 as _ .norm fr1 he1 true (some b) n l.assign c w _ _ (hMC _ _ hl5 0) (fun _ => rfl) (Nat.zero_le _) hF0 fun c1 w1 a1 hS1 hF1 => ?_
  have hgen1 := (hF1.heap _ _ hob1).gen
  simp only [Ob.gen] at hgen1
  have hp1 : c1.obj nm = some p := (hS1.obj _ (fun x => x) (by rw [hgen1, hgen])).trans hp
  obtain ⟨_, l1, hl11, hrest⟩ := loop_of (g := g.at 0) hF1.heap hob1 hp1 hb
  have hst1 : l1.state = .ready := hrest.2.2.2.2.2.1
  refine ⟨_, run_beginRound hl11 hst1, ?_⟩
  have hr1 : Redo c1 w1 (w1.putObj b (.loop { l1 with state := .busy })) nm p p g2 := put_redo hp1 hb (Nat.le_of_eq hgen1)
  have hF1' : FrRel (g.at 0) (c1.lay nm g2 (some p)) (w1.putObj b (.loop { l1 with state := .busy })) { fr1 with heap := hset fr1.heap nm (.loop tmps1 ps1 as1 bd1 (some .norm) g2) } a1 := by
    refine hF1.redo hr1 hob1 ⟨Ctx.lay_gen_self .., fun p' hp' => ?_⟩
    rw [Ctx.lay_obj_self] at hp'
    simp only [Option.some.injEq] at hp'
    subst hp'
    exact ⟨b, hb, loopRel_put (jump := none) hl11 ⟨l1, hl11, hrest⟩ (fun v u hv => hv.step hr1.step hF1.wf) rfl⟩
  refine hE 0 bd _ ex fr2 he2 true (some b) n l.body _ _ a1 _ (hMC _ _ hl6 0) (fun _ => rfl) (Nat.zero_le _) hF1' fun c2 w2 a2 hS2 hF2 => ?_
  have hgen2 := (hF2.heap _ _ hob2).gen
  simp only [Ob.gen] at hgen2
  have hp2 : c2.obj nm = some p := (hS2.obj _ (fun x => x) (by rw [hgen2, Ctx.lay_gen_self])).trans (Ctx.lay_obj_self ..)
  obtain ⟨_, l2, hl21, hrest2⟩ := loop_of (g := g.at 0) hF2.heap hob2 hp2 hb
  have fin : ∀ (jc : Option Code), (match j with
      | none => jc = none
      | some .norm => False
      | some (.exit id) => jc = some (.exit id)
      | some .ret => jc = some .ret) → v' = .bool jc.isNone →
      ∃ v w', (Instr.endRound b jc).run g.P w2 = .ok v w' ∧ CallR g c w ((hset fr2.heap nm (.loop tmps2 ps2 as2 bd2 j g2)).take h.length) v' (.returned v) w' := by
    intro jc hj hv'
    have hr2 : Redo c2 w2 (w2.putObj b (.loop { l2 with state := if jc.isNone then .ready else .done, pending := jc })) nm p p g2 := put_redo hp2 hb (Nat.le_of_eq hgen2)
    have hF3 : FrRel (g.at 0) (c2.lay nm g2 (some p)) (w2.putObj b (.loop { l2 with state := if jc.isNone then .ready else .done, pending := jc })) { fr2 with heap := hset fr2.heap nm (.loop tmps2 ps2 as2 bd2 j g2) } a2 := by
      refine hF2.redo hr2 hob2 ⟨Ctx.lay_gen_self .., fun p' hp' => ?_⟩
      rw [Ctx.lay_obj_self] at hp'
      simp only [Option.some.injEq] at hp'
      subst hp'
      refine ⟨b, hb, loopRel_put (jump := some .norm) hl21 ⟨l2, hl21, hrest2⟩ (fun v u hv => hv.step hr2.step hF2.wf) ?_⟩
      cases j with
      | none => simp only at hj; subst hj; exact ⟨rfl, rfl⟩
      | some e =>
        cases e with
        | norm => exact hj.elim
        | exit id => simp only at hj; subst hj; exact ⟨rfl, rfl⟩
        | ret => simp only at hj; subst hj; exact ⟨rfl, rfl⟩
    have hH : HS g (c2.lay nm g2 (some p)) _ (hset fr2.heap nm (.loop tmps2 ps2 as2 bd2 j g2)) := ⟨hF3.heap, hF3.wf, hF3.hn⟩
    refine ⟨_, _, run_endRound jc hl21, _, (c2.lay nm g2 (some p)).upTo h.length, rfl, Step.upTo (((hS1.trans hr1.step).trans hS2).trans hr2.step) fun m hm => hs.hn m (hget_ge hm), hH.upTo hlow, ?_⟩
    rw [hv']
    exact .i _ _ (.bool _)
  cases ex with
  | norm =>
    simp only [endRoundE, Prod.mk.injEq] at her
    obtain ⟨rfl, rfl⟩ := her
    exact fin none rfl rfl
  | ret =>
    simp only [endRoundE, Prod.mk.injEq] at her
    obtain ⟨rfl, rfl⟩ := her
    exact fin (some .ret) rfl rfl
  | exit id =>
    simp only [endRoundE, Prod.mk.injEq] at her
    obtain ⟨rfl, rfl⟩ := her
    exact fin (some (.exit id)) rfl rfl

theorem CallSound.at {callE : CallE} (h : CallSound g callE) (lo : Nat) : CallSound (g.at lo) callE := by
  intro f args hp v h' he c w vs hs hl
  exact callsMono (h f args hp v h' he c w vs ⟨hs.heap, hs.wf, hs.hn⟩ hl) fun e w' ⟨u, c', h1, h2, h3, h4⟩ => ⟨u, c', h1, h2, ⟨h3.heap, h3.wf, h3.hn⟩, h4⟩

theorem YieldSound.at {yieldE : Nm → List PV → Heap → Option (PV × Heap)} (h : YieldSound g yieldE) (lo : Nat) : YieldSound (g.at lo) yieldE := by
  intro nm args hp v h' he c w vs b p hs hl hp' hb
  obtain ⟨f, tmps, as, bd, h1, h2⟩ := h nm args hp v h' he c w vs b p ⟨hs.heap, hs.wf, hs.hn⟩ hl hp' hb
  exact ⟨f, tmps, as, bd, h1, fun n => (h2 n).mono fun e w' ⟨u, c', h1, h2, h3, h4⟩ => ⟨u, c', h1, h2, ⟨h3.heap, h3.wf, h3.hn⟩, h4⟩⟩

/-- What an instance has to show. -/
structure PG.OK (g : PG) : Prop where
  fns : ∀ lo, FnsM (g.at lo)
  mc : ∀ p x, g.MC p x ↔ ∀ lo, (g.at lo).matchC true p x = true
  indep : ∀ p x lo lo', (g.at lo).matchC true p x = true → (g.at lo').matchC true p x = true

theorem all_sound (hg : g.OK) : ∀ k, (∀ lo, EvSound (g.at lo) k) ∧ (∀ lo, LoopSound (g.at lo) k) ∧ CallSound g (callN g.E k) ∧ CallSoundP (CD g) g (callD g.E k) ∧ DefSound g k ∧ YieldSound g (yieldN g.E k) := by
  intro k
  induction k with
  | zero =>
    refine ⟨fun lo pc fr ex fr' h => ?_, fun lo pc fr ex fr' h => ?_, fun f args h v h' hd => ?_, fun f args h v h' hd => ?_, fun ds h h' hs => ?_, fun nm args h v h' hd => ?_⟩
    · simp [evN] at h
    · simp [evN] at h
    · simp [callN] at hd
    · simp [callD] at hd
    · simp [defN] at hs
    · simp [yieldN] at hd
  | succ k ih =>
    obtain ⟨h1, h2, h3, h4, h5, h6⟩ := ih
    have hF : FnsOK g := (hg.fns g.lo).ok
    refine ⟨fun lo => ev_succ (h1 lo) (h2 lo) (h3.at lo) (h6.at lo) hF fun s f ps p q fr ex fr' he n code c w a Q hm hlo hfr hK => ?_, fun lo => loop_succ (h1 lo) (h2 lo), call_succ h1 h5 hg.fns, callD_succ h1 hg.fns, def_succ h4 h5 hF, yield_succ h1 fun p x hp => (hg.mc p x).1 hp⟩
    exact rangef_sound (g := g.at lo) (fun p x hm => (hg.mc p x).2 fun lo' => hg.indep p x lo lo' hm) (h3.at lo) hF s f ps p q fr ex fr' he n code c w a Q hm hlo hfr hK

/-- **The evaluator is sound**: what it says of a call is what the machine does. -/
theorem callN_sound (hg : g.OK) (k : Nat) : CallSound g (callN g.E k) := (all_sound hg k).2.2.1

end Go.VI
