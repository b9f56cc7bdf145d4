/- A region that draws its order: the steps. -/
import Derived.Test.YteodaifeknghaaaVi25
namespace Go.VI
variable {g : PG} {callE : CallE} {yieldE : Nm → List PV → Heap → Option (PV × Heap)} {rd : Bool} {os : Array Oper} {its : List DPO} {mxd : Nat} {md : Region.Mode}
variable {c0 c : Ctx} {w0 w : World} {pre past rest : List DPO} {listed : Array Bool} {F F1 Ff : Fr} {a : Act}

theorem DI.mem_its (h : DI g os its mxd md c0 w0 pre past rest listed F c w a) {x : DPO} (hx : x ∈ past) : x ∈ its ∧ x ∈ pre ∧ x.isC = false := by
  obtain ⟨h1, h2⟩ := (h.mem x).1 hx
  exact ⟨by rw [h.split]; exact List.mem_append_left _ h1, h1, h2⟩

theorem pre_pair {x : DPO} {r : List DPO} (hS : Stat g rd os its mxd) (hsp : its = pre ++ x :: r) {y : DPO} (hy : y ∈ pre) : pairOK y x = true := by
  obtain ⟨p1, p2, rfl⟩ := List.append_of_mem hy
  exact pairsOK_get hS.pairs (pre := p1) (post := p2 ++ x :: r) (by rw [hsp]; simp) (by simp)

/-- VI takes the next operation, which has no fixed place. -/
theorem DI.take (hS : Stat g rd os its mxd) {x : DPO} {r : List DPO} (h : DI g os its mxd md c0 w0 pre past (x :: r) listed F c w a) (hx : x.isC = false) (hf : freshSlot F x.o = true) (hs : stepPO g.E callE yieldE x.o F = some F1) :
    ∃ c', DI g os its mxd md c0 w0 (pre ++ [x]) (x :: past) r listed F1 c' w a := by
  have hxi : x ∈ its := by rw [h.split]; simp
  obtain ⟨hR, d, hd, hu, hdm⟩ := hS.R hxi hx
  have hdl : d < F.tmps.length := Nat.lt_of_lt_of_le hdm h.len
  obtain ⟨h1, v, rfl, hle, hcase, hst⟩ := stepR hd hR hs hdl hu hf
  have hunl : ∀ i, ¬ unl listed (x :: past) i → ¬ unl listed past i ∧ i ≠ d := by
    intro i hi
    refine ⟨fun ⟨y, hy, h2⟩ => hi ⟨y, List.mem_cons_of_mem _ hy, h2⟩, fun e => hi ⟨x, List.mem_cons_self .., h.rl x (List.mem_cons_self ..), by rw [hd, e]⟩⟩
  have hget : ∀ i, i ≠ d → (({ F with heap := h1 } : Fr).put (some d) v).tmps.getD i .junk = F.tmps.getD i .junk := by
    intro i hi
    rw [put_getD, if_neg fun hx => hi hx.1.symm]
  -- the others stay as they were
  have others : ∀ (c' : Ctx), (∀ n : Nm, (∀ s, x.o.op.slot = some s → n ≠ F.nm s) → c'.obj n = c.obj n ∧ c'.gen n = c.gen n) → ∀ y ∈ past, listed.getD y.ix false = false → ∃ d, y.o.dst = some d ∧ Stable g.E c0 c' (({ F with heap := h1 } : Fr).put (some d) v |> fun _ => (({ F with heap := h1 } : Fr).put x.o.dst v)) y.o d := by
    intro c' hc' y hy hyl
    obtain ⟨hyi, hyp, hyc⟩ := h.mem_its hy
    obtain ⟨dy, hdy, hsy⟩ := h.st y hy hyl
    obtain ⟨hRy, _⟩ := hS.R hyi hyc
    have hpair := pre_pair hS h.split hyp
    obtain ⟨q1, q2⟩ := pair_yR hpair hx hd
    refine ⟨dy, hdy, ?_⟩
    rw [hd]
    refine Stable.to hsy hRy rfl (by rw [put_len]) (fun i hi => hget i fun e => q1 (e ▸ hi)) (hget dy fun e => q2 (e ▸ hdy)) (.inl hle) fun s hs => ?_
    exact hc' (F.nm s) fun s' hs' e => pair_slots hpair hyc hx hs (by rw [hs']; congr 1; simpa [Fr.nm] using e.symm)
  have common : ∀ c', FrU g c' w (({ F with heap := h1 } : Fr).put (some d) v) (unl listed (x :: past)) a → Step N0 c0 w0 c' w → (∀ n : Nm, (∀ s, x.o.op.slot = some s → n ≠ F.nm s) → c'.obj n = c.obj n ∧ c'.gen n = c.gen n) →
      (∀ s, x.o.op.slot = some s → guardE F.tmps x.o.guard = some true → c'.obj (F.nm s) = none ∧ c0.gen (F.nm s) < c'.gen (F.nm s)) → DI g os its mxd md c0 w0 (pre ++ [x]) (x :: past) r listed (({ F with heap := h1 } : Fr).put (some d) v) c' w a := by
    intro c' hfr hstep hc' hp
    refine ⟨by rw [h.split]; simp, fun y => ?_, h.size, h.closed, fun y hy hyc => ?_, fun y hy => h.rl y (List.mem_cons_of_mem _ hy), by rw [put_len]; exact h.len, hfr, fun y hy hyl => ?_, hstep⟩
    · rw [List.mem_cons, h.mem y, List.mem_append, List.mem_singleton]
      constructor
      · rintro (rfl | ⟨h2, h3⟩)
        · exact ⟨.inr rfl, hx⟩
        · exact ⟨.inl h2, h3⟩
      · rintro ⟨h2 | h2, h3⟩
        · exact .inr ⟨h2, h3⟩
        · exact .inl h2
    · rcases List.mem_append.1 hy with hy | hy
      · exact h.cl y hy hyc
      · rw [List.mem_singleton.1 hy, hx] at hyc
        cases hyc
    · rcases List.mem_cons.1 hy with rfl | hy
      · exact ⟨d, hd, hst c0 c' hp⟩
      · obtain ⟨dy, hdy, hsy⟩ := others c' hc' y hy hyl
        rw [hd] at hsy
        exact ⟨dy, hdy, hsy⟩
  rcases hcase with ⟨rfl, hns⟩ | ⟨s, ob, hsl, hg, hlen', rfl, hgen⟩
  · refine ⟨c, common c ⟨by rw [put_len]; exact h.fr.size, fun i hi => ?_, by rw [put_heap]; exact h.fr.hs, by rw [put_defers]; exact h.fr.defs⟩ h.step (fun n _ => ⟨rfl, rfl⟩) fun s hs hg => ?_⟩
    · obtain ⟨h2, h3⟩ := hunl i hi
      rw [hget i h3]
      exact h.fr.tmps i h2
    · rw [hns hg] at hs
      cases hs
  · have hM := h.fr.mask
    have hlt : c.gen (F.nm s) < ob.gen := by
      rw [hgen]
      exact hM.next (F.nm s)
    have hFl : FrRel g (c.lay (F.nm s) ob.gen none) w { F.mask (unl listed past) with heap := hset F.heap (F.nm s) ob } a := by
      refine FrRel.lay (ob := ob) hM ⟨Nat.le_of_lt hlt, fun e => by omega⟩ hlen' (More.refl w) (p := none) (fun q b hq => by cases hq) ?_
      have h0 : ∀ p, (c.lay (F.nm s) ob.gen none).obj (F.nm s) = some p → False := fun p hp => by rw [Ctx.lay_obj_self] at hp; cases hp
      have hg0 := Ctx.lay_gen_self c (F.nm s) ob.gen none
      cases ob with
      | mem => exact ⟨hg0, fun p hp => (h0 p hp).elim⟩
      | map => exact ⟨hg0, fun p hp => (h0 p hp).elim⟩
      | loop => exact ⟨hg0, fun p hp => (h0 p hp).elim⟩
      | dead => exact hg0
    have hstep : Step N0 c0 w0 (c.lay (F.nm s) ob.gen none) w := h.step.trans (step_lay0 (More.refl w) hlt (fun q b hq => by cases hq))
    refine ⟨_, common _ ⟨by rw [put_len]; exact h.fr.size, fun i hi => ?_, by rw [put_heap]; exact hFl.hs, by rw [put_defers]; exact hFl.defs⟩ hstep (fun n hn => ?_) fun s' hs' _ => ?_⟩
    · obtain ⟨h2, h3⟩ := hunl i hi
      rw [hget i h3]
      have := hFl.tmps i
      rwa [show ({ F.mask (unl listed past) with heap := hset F.heap (F.nm s) ob } : Fr).tmps = maskU (unl listed past) F.tmps from rfl, maskU_out h2] at this
    · have hne := hn s hsl
      exact ⟨Ctx.lay_obj c _ _ hne, Ctx.lay_gen c _ _ hne⟩
    · rw [hsl] at hs'
      simp only [Option.some.injEq] at hs'
      subst hs'
      refine ⟨Ctx.lay_obj_self .., ?_⟩
      rw [Ctx.lay_gen_self]
      exact Nat.lt_of_le_of_lt (h.step.gen _) hlt

/-- VI goes on up to the next operation that has a fixed place. -/
theorem DI.advance (hS : Stat g rd os its mxd) : ∀ (rest pre past : List DPO) (F : Fr) (c : Ctx), DI g os its mxd md c0 w0 pre past rest listed F c w a → runD g.E callE yieldE past rest F = some Ff →
    ∃ pre' past' rest' F' c', DI g os its mxd md c0 w0 pre' past' rest' listed F' c' w a ∧ runD g.E callE yieldE past' rest' F' = some Ff ∧ ∀ x r, rest' = x :: r → x.isC = true
  | [], pre, past, F, c, h, hr => ⟨pre, past, [], F, c, h, hr, fun x r e => by cases e⟩
  | x :: r, pre, past, F, c, h, hr => by
    cases hx : x.isC with
    | true => exact ⟨pre, past, x :: r, F, c, h, hr, fun y q e => by simp only [List.cons.injEq] at e; rw [← e.1]; exact hx⟩
    | false =>
      simp only [runD, hx, Bool.false_eq_true, if_false] at hr
      split at hr
      case isFalse => cases hr
      rename_i hf
      split at hr
      · cases hr
      rename_i F1 hs
      obtain ⟨c', h'⟩ := h.take hS hx hf hs
      exact DI.advance hS r _ _ F1 c' h' hr

theorem getD_set' {l : Array Bool} {i j : Nat} : (l.setIfInBounds i true).getD j false = true ↔ l.getD j false = true ∨ (i = j ∧ i < l.size) := by
  simp only [Array.getD_eq_getD_getElem?, Array.getElem?_setIfInBounds]
  by_cases h : i = j
  · subst h
    by_cases hl : i < l.size
    · simp [hl]
    · simp [hl]
  · simp [h]

theorem getD_set_false {l : Array Bool} {i j : Nat} (h : (l.setIfInBounds i true).getD j false = false) : l.getD j false = false := by
  cases hl : l.getD j false with
  | false => rfl
  | true => rw [getD_set'.2 (.inl hl)] at h; cases h

theorem closed_set {listed : Array Bool} (hc : ClosedL md os listed) {i : Nat} {o : Oper} (ho : os[i]? = some o) (hr : ∀ e ∈ o.after, Region.binds md e = true → listed.getD e.on false = true) : ClosedL md os (listed.setIfInBounds i true) := by
  intro k o' e hk ho' he hb
  rcases getD_set'.1 hk with h | ⟨rfl, _⟩
  · exact getD_set'.2 (.inl (hc k o' e h ho' he hb))
  · rw [ho] at ho'
    simp only [Option.some.injEq] at ho'
    subst ho'
    exact getD_set'.2 (.inl (hr e he hb))

/-- What is read is there. -/
theorem DI.sees (hS : Stat g rd os its mxd) (h : DI g os its mxd md c0 w0 pre past rest listed F c w a) {x : DPO} (hx : x ∈ its) (hanc : ∀ j ∈ x.anc, listed.getD j false = true) (hself : ∀ d, x.isC = false → x.o.dst = some d → d ∉ x.o.uses) :
    ∀ i ∈ x.o.uses, ¬ unl listed past i := by
  rintro i hi ⟨y, hy, hyl, hyd⟩
  obtain ⟨hyi, _, hyc⟩ := h.mem_its hy
  rcases pairs_or hS.pairs hyi hx with e | hp | hp
  · subst e; exact hself i hyc hyd hi
  · have := hanc _ ((pair_xR hp hyc hyd).1 hi)
    rw [hyl] at this
    cases this
  · exact (pair_yR hp hyc hyd).1 hi

theorem DI.sameMask {l : List Nat} (h : ∀ i ∈ l, ¬ unl listed past i) : Same l F.tmps (F.mask (unl listed past)).tmps := fun i hi => maskU_out (h i hi) _

end Go.VI
