/- A region that draws its order: the machine takes an operation that VI has taken before. -/
import Derived.Test.YteodaifeknghaaaVi26
namespace Go.VI
variable {g : PG} {callE : CallE} {yieldE : Nm → List PV → Heap → Option (PV × Heap)} {rd : Bool} {os : Array Oper} {its : List DPO} {mxd : Nat} {md : Region.Mode}
variable {c0 c : Ctx} {w0 w : World} {pre past rest : List DPO} {listed : Array Bool} {F F1 Ff : Fr} {a : Act} {Q : Exit → Act → World → Prop} {n : Nat} {ro : Option Nat}

theorem matchPO_spec {p : PPO} {o : Oper} (hm : g.matchPO rd os p o = true) : p.dst = o.dst ∧ p.op.known = true ∧ (rd = true → p.op.isDefer = false) ∧ g.matchOp p.op o.op = true ∧ (match p.guard, o.guard with
    | none, none => true
    | some (t, b), some (j, b') => decide ((os[j]?).bind (·.dst) = some t) && (b == b')
    | _, _ => false) = true := by
  unfold PG.matchPO at hm
  simp only [Bool.and_eq_true, decide_eq_true_eq] at hm
  obtain ⟨⟨⟨⟨hd, hkn⟩, hdf⟩, hop⟩, hgd⟩ := hm
  refine ⟨hd, hkn, fun h => ?_, hop, hgd⟩
  subst h
  simpa using hdf

theorem unl_set {x : DPO} (hx : x ∈ past) (hS : ∀ y ∈ past, y.ix = x.ix → y = x) {d : Nat} (hd : x.o.dst = some d) (hlt : x.ix < listed.size) {i : Nat} (hi : ¬ unl (listed.setIfInBounds x.ix true) past i) : i = d ∨ ¬ unl listed past i := by
  by_cases e : i = d
  · exact .inl e
  · refine .inr fun ⟨y, hy, hyl, hyd⟩ => ?_
    by_cases hyx : x.ix = y.ix
    · have := hS y hy hyx.symm
      subst this
      rw [hd] at hyd
      simp only [Option.some.injEq] at hyd
      exact e hyd.symm
    · refine hi ⟨y, hy, ?_, hyd⟩
      cases hl : (listed.setIfInBounds x.ix true).getD y.ix false with
      | false => rfl
      | true =>
        rcases getD_set'.1 hl with h | ⟨h, _⟩
        · rw [hyl] at h; cases h
        · exact absurd h hyx

/-- The state behind it. -/
theorem DI.pickedR (hS : Stat g rd os its mxd) (h : DI g os its mxd md c0 w0 pre past rest listed F c w a) {x : DPO} (hx : x ∈ past) {o : Oper} (ho : os[x.ix]? = some o) (hr : ∀ e ∈ o.after, Region.binds md e = true → listed.getD e.on false = true)
    {c' : Ctx} {w' : World} {a' : Act} (hfr : FrU g c' w' F (unl (listed.setIfInBounds x.ix true) past) a') (hstep : Step N0 c0 w0 c' w') (hkeep : ∀ y ∈ past, y ≠ x → ∀ s, y.o.op.slot = some s → c.obj (F.nm s) = none → c'.gen (F.nm s) = c.gen (F.nm s) → c'.obj (F.nm s) = none) :
    DI g os its mxd md c0 w0 pre past rest (listed.setIfInBounds x.ix true) F c' w' a' := by
  obtain ⟨hxi, hxp, hxc⟩ := h.mem_its hx
  refine ⟨h.split, h.mem, by simpa using h.size, closed_set h.closed ho hr, fun y hy hyc => getD_set'.2 (.inl (h.cl y hy hyc)), fun y hy => ?_, h.len, hfr, fun y hy hyl => ?_, hstep⟩
  · cases hl : (listed.setIfInBounds x.ix true).getD y.ix false with
    | false => rfl
    | true =>
      rcases getD_set'.1 hl with h2 | ⟨h2, _⟩
      · rw [h.rl y hy] at h2; cases h2
      · have hyi : y ∈ its := by rw [h.split]; exact List.mem_append_right _ hy
        have e := ix_inj hS.pairs hxi hyi h2
        subst e
        obtain ⟨p1, p2, e1⟩ := List.append_of_mem hy
        obtain ⟨q1, q2, e2⟩ := List.append_of_mem hxp
        have := pairsOK_get hS.pairs (pre := q1) (x := x) (post := q2 ++ rest) (y := x) (by rw [h.split, e2]; simp) (by rw [e1]; simp)
        exact absurd rfl (pairOK_ix this)
  · have hyx : y ≠ x := by
      intro e
      subst e
      rw [getD_set'.2 (.inr ⟨rfl, by rw [h.size]; exact (hS.item y hxi).1⟩)] at hyl
      cases hyl
    obtain ⟨d, hd, hst⟩ := h.st y hy (getD_set_false hyl)
    refine ⟨d, hd, ?_⟩
    cases hst with
    | off hg hv => exact .off hg hv
    | op hg hs v ce ye hh hv => exact .op hg hs v ce ye hh hv
    | lay hg s ob v hs hob hl hv hp hlt =>
      have e1 := (h.fr.hs.heap _ _ hob).gen
      have e2 := (hfr.hs.heap _ _ hob).gen
      have e3 : c'.gen (F.nm s) = c.gen (F.nm s) := e2.trans e1.symm
      exact .lay hg s ob v hs hob hl hv (hkeep y hy hyx s hs hp e3) (by rw [e3]; exact hlt)

theorem DI.pickR (hcE : CallSound g callE) (hyE : YieldSound g yieldE) (hF : FnsOK g) (hrd : ro ≠ none → rd = true) (hS : Stat g rd os its mxd) (h : DI g os its mxd md c0 w0 pre past rest listed F c w a) {x : DPO} (hx : x ∈ past) (hl : listed.getD x.ix false = false) {o : Oper} (ho : os[x.ix]? = some o) (hr : ∀ e ∈ o.after, Region.binds md e = true → listed.getD e.on false = true)
    {K : Act → World → Prop} (hK : ∀ c' w' a', DI g os its mxd md c0 w0 pre past rest (listed.setIfInBounds x.ix true) F c' w' a' → K a' w') : wpOpIn (wR ro) n g.P os Q x.ix K a w := by
  obtain ⟨hxi, hxp, hxc⟩ := h.mem_its hx
  obtain ⟨hR, d0, hd0, hu0, hdm⟩ := hS.R hxi hxc
  obtain ⟨o', ho', hmatch⟩ := hS.op hxi
  rw [ho] at ho'
  simp only [Option.some.injEq] at ho'
  subst ho'
  obtain ⟨d, hd, hst⟩ := h.st x hx hl
  rw [hd0] at hd
  simp only [Option.some.injEq] at hd
  subst hd
  have hanc := ready_anc hS.anc h.closed hxi ho hr
  have hsees := h.sees hS hxi hanc fun d _ hd => by rw [hd0] at hd; simp only [Option.some.injEq] at hd; exact hd ▸ hu0
  have hsame : Same x.o.uses F.tmps (F.mask (unl listed past)).tmps := DI.sameMask hsees
  have hdl : d0 < F.tmps.length := Nat.lt_of_lt_of_le hdm h.len
  have hlt : x.ix < listed.size := by rw [h.size]; exact (hS.item x hxi).1
  have hM := h.fr.mask
  have hun : ∀ {i}, ¬ unl (listed.setIfInBounds x.ix true) past i → i = d0 ∨ ¬ unl listed past i := fun hi => unl_set hx (fun y hy e => ix_inj hS.pairs (h.mem_its hy).1 hxi e) hd0 hlt hi
  obtain ⟨hdst, hkn, hdf, hop, hgd⟩ := matchPO_spec hmatch
  -- the frame that comes out
  have toU : ∀ {c' w' a'} (v : PV), F.tmps.getD d0 .junk = v → FrRel g c' w' ((F.mask (unl listed past)).put (some d0) v) a' → FrU g c' w' F (unl (listed.setIfInBounds x.ix true) past) a' := by
    intro c' w' a' v hv hf
    refine FrU.of hf (by rw [put_len]; exact (maskU_length F.tmps).symm) (by rw [put_heap]; rfl) (by rw [put_defers]; rfl) fun i hi => ?_
    rw [put_getD]
    split
    · rename_i e; rw [← e.1]; exact hv
    · rename_i e
      rcases hun hi with rfl | h2
      · exact absurd ⟨rfl, by rw [show (F.mask (unl listed past)).tmps.length = F.tmps.length from maskU_length F.tmps]; exact hdl⟩ e
      · exact (maskU_out h2 F.tmps).symm
  unfold wpOpIn
  rw [ho]
  cases hst with
  | off hg hv =>
    have hpo : stepPO g.E callE yieldE x.o (F.mask (unl listed past)) = some ((F.mask (unl listed past)).put (some d0) (.tuple [])) := by
      unfold stepPO
      rw [guard_same hsame, hg, hd0]
    refine po_sound hcE hyE hF hM hrd hmatch hpo fun c' w' a' hs hf => hK c' w' a' ?_
    exact h.pickedR hS hx ho hr (toU _ hv hf) (h.step.trans hs) fun y _ _ s _ hp hg => (hs.obj _ (fun x => x) hg).trans hp
  | op hg hs v ce ye hh hv =>
    have hst2 : stepOp g.E callE yieldE x.o.dst x.o.op (F.mask (unl listed past)) = some ((F.mask (unl listed past)).put (some d0) v) := by
      rw [hd0]
      have inj : ∀ v', F.put (some d0) v = F.put (some d0) v' → v' = v := by
        intro v' he
        have hle : (F.put (some d0) v).tmps.getD d0 .junk = (F.put (some d0) v').tmps.getD d0 .junk := by rw [he]
        rw [put_getD, put_getD, if_pos ⟨rfl, hdl⟩, if_pos ⟨rfl, hdl⟩] at hle
        exact hle.symm
      by_cases hb : x.o.op.bare = true
      · obtain ⟨v', e1, h2⟩ := bare_same hb hh
        have := inj v' e1
        subst this
        exact h2 _ callE yieldE (uses_op hsame)
      · have hr' : x.o.op.reads = true := by simpa [hs, hb] using hR
        obtain ⟨v', e1, h2⟩ := reads_same hr' hh
        have := inj v' e1
        subst this
        exact h2 _ callE yieldE (uses_op hsame) (HLe.refl _)
    have hpo : stepPO g.E callE yieldE x.o (F.mask (unl listed past)) = some ((F.mask (unl listed past)).put (some d0) v) := by
      unfold stepPO
      rw [guard_same hsame, hg]
      exact hst2
    refine po_sound hcE hyE hF hM hrd hmatch hpo fun c' w' a' hs' hf => hK c' w' a' ?_
    exact h.pickedR hS hx ho hr (toU _ hv hf) (h.step.trans hs') fun y _ _ s _ hp hg => (hs'.obj _ (fun x => x) hg).trans hp
  | lay hg s ob v hs hob hlay hv hp hlt' =>
    have hgen := (h.fr.hs.heap _ _ hob).gen
    have hRm : Room c (F.nm s) ob.gen := ⟨Nat.le_of_eq hgen, fun _ => hp⟩
    have hlay' : layE (evX g.E (F.mask (unl listed past)).tmps) (F.nm s) x.o.op ob.gen = some (v, ob) := by rw [lay_same hs (uses_op hsame)]; exact hlay
    obtain ⟨u, w', p, hrun, hMo, hfit, hobr, hv'⟩ := lay_op (o := o) hM hRm hop hs hlay'
    have hFl := FrRel.lay hM hRm (hget_lt hob) hMo hfit hobr
    have hheap : hset (F.mask (unl listed past)).heap (F.nm s) ob = F.heap := hget_hset_same hob
    have hF2 : FrRel g (c.lay (F.nm s) ob.gen (some p)) w' (F.mask (unl listed past)) a := by
      have e : ({ F.mask (unl listed past) with heap := hset (F.mask (unl listed past)).heap (F.nm s) ob } : Fr) = F.mask (unl listed past) := by
        rw [hheap]; rfl
      rw [e] at hFl
      exact hFl
    have hstep : Step N0 c0 w0 (c.lay (F.nm s) ob.gen (some p)) w' := h.step.trans' (step_lay hMo hRm hfit) fun m hm => .inr (by rw [hm.1]; exact hlt')
    have hno : ∀ cc, o.op ≠ .defer cc := by
      intro cc hcc
      rw [hcc] at hop
      cases hpp : x.o.op <;> rw [hpp] at hop hs <;> simp [PG.matchOp, POp.slot] at hop hs
    have hw : Region.wanted o (yielded os a.tmps) = true := guard_spec hM hgd (by rw [guard_same hsame]; exact hg)
    simp only [hw, if_true]
    refine ⟨fun _ _ => trivial, ?_⟩
    rw [show (wR ro).round = ro from rfl, Oper.semAt_eq _ _ _ hno, hrun, Oper.uponIn_value]
    refine hK _ _ _ (h.pickedR hS hx ho hr (toU v hv ?_) hstep fun y hy hyx s' hs' hp' _ => ?_)
    · rw [← hdst, hd0]
      exact hF2.put (some d0) hv'
    · have hne : F.nm s' ≠ F.nm s := by
        intro e
        have e2 : s' = s := by simpa [Fr.nm] using e
        subst e2
        obtain ⟨hyi, _, hyc⟩ := h.mem_its hy
        rcases pairs_or hS.pairs hyi hxi with e | hpq | hpq
        · exact hyx e
        · exact pair_slots hpq hyc hxc hs' hs
        · exact pair_slots hpq hxc hyc hs hs'
      rw [Ctx.lay_obj c _ _ hne]
      exact hp'

end Go.VI
