/- A region that draws its order: the machine and VI take an operation of a fixed place; the whole region. -/
import Derived.Test.YteodaifeknghaaaVi27
namespace Go.VI
variable {g : PG} {callE : CallE} {yieldE : Nm → List PV → Heap → Option (PV × Heap)} {rd : Bool} {os : Array Oper} {its : List DPO} {mxd : Nat} {md : Region.Mode}
variable {c0 c : Ctx} {w0 w : World} {pre past rest : List DPO} {listed : Array Bool} {F F1 Ff : Fr} {a : Act} {Q : Exit → Act → World → Prop} {n : Nat} {ro : Option Nat}

theorem quiet_heap {o : PPO} {h1 : Heap} {v : PV} (hq : quiet g.E o F.tmps = true) (hs : stepOp g.E callE yieldE o.dst o.op F = some (({ F with heap := h1 } : Fr).put o.dst v)) : h1 = F.heap := by
  unfold quiet at hq
  split at hq
  case h_2 => cases hq
  rename_i f args hop
  split at hq
  case h_2 => cases hq
  rename_i k p q hf
  split at hq
  case h_2 => cases hq
  rename_i pf hpf
  rw [hop] at hs
  simp only [stepOp] at hs
  split at hs
  case h_2 => cases hs
  rename_i v1 h2 hc
  simp only [Option.some.injEq] at hs
  have e : h2 = h1 := by
    have := congrArg Fr.heap hs
    rwa [put_heap, put_heap] at this
  subst e
  unfold callV at hc
  rw [hf] at hc
  simp only [doCall, hpf, hq, if_true] at hc
  split at hc
  · split at hc
    case h_2 => cases hc
    split at hc <;> simp only [Option.some.injEq, Prod.mk.injEq, reduceCtorEq] at hc
    exact hc.2.symm
  · split at hc
    case h_1 => cases hc
    split at hc
    case h_2 => cases hc
    split at hc
    case h_2 => cases hc
    split at hc <;> simp only [Option.some.injEq, Prod.mk.injEq, reduceCtorEq] at hc
    exact hc.2.symm

theorem DI.pickC (hcE : CallSound g callE) (hyE : YieldSound g yieldE) (hF : FnsOK g) (hrd : ro ≠ none → rd = true) (hS : Stat g rd os its mxd) {x : DPO} {r : List DPO} (h : DI g os its mxd md c0 w0 pre past (x :: r) listed F c w a) (hxc : x.isC = true) (hrun : runD g.E callE yieldE past (x :: r) F = some Ff) {o : Oper} (ho : os[x.ix]? = some o) (hr : ∀ e ∈ o.after, Region.binds md e = true → listed.getD e.on false = true)
    {K : Act → World → Prop} (hK : ∀ F1 c' w' a', DI g os its mxd md c0 w0 (pre ++ [x]) past r (listed.setIfInBounds x.ix true) F1 c' w' a' → runD g.E callE yieldE past r F1 = some Ff → K a' w') : wpOpIn (wR ro) n g.P os Q x.ix K a w := by
  have hxi : x ∈ its := by rw [h.split]; simp
  obtain ⟨o', ho', hmatch⟩ := hS.op hxi
  rw [ho] at ho'
  simp only [Option.some.injEq] at ho'
  subst ho'
  have hanc := ready_anc hS.anc h.closed hxi ho hr
  have hsees := h.sees hS hxi hanc fun d hc => by rw [hxc] at hc; cases hc
  have hsame : Same x.o.uses F.tmps (F.mask (unl listed past)).tmps := DI.sameMask hsees
  have hlt : x.ix < listed.size := by rw [h.size]; exact (hS.item x hxi).1
  have hM := h.fr.mask
  have hfix := hS.C hxi hxc
  obtain ⟨hdst, hkn, hdf, hop, hgd⟩ := matchPO_spec hmatch
  simp only [runD, hxc, if_true] at hrun
  split at hrun
  · cases hrun
  rename_i F1 hs
  split at hrun
  case isFalse => cases hrun
  rename_i hchk
  -- the same on what is there
  obtain ⟨h1, v, e1, hs2, hq⟩ : ∃ h1 v, F1 = ({ F with heap := h1 } : Fr).put x.o.dst v ∧ stepPO g.E callE yieldE x.o (F.mask (unl listed past)) = some (({ F.mask (unl listed past) with heap := h1 } : Fr).put x.o.dst v) ∧ (quiet g.E x.o F.tmps = true → h1 = F.heap) := by
    unfold stepPO at hs
    split at hs
    · cases hs
    · rename_i hg
      simp only [Option.some.injEq] at hs
      refine ⟨F.heap, .tuple [], hs.symm, ?_, fun _ => rfl⟩
      unfold stepPO
      rw [guard_same hsame, hg]
      rfl
    · rename_i hg
      obtain ⟨v, h1, q1, q2⟩ := fixed_same hfix hs
      refine ⟨h1, v, q1, ?_, fun hq => quiet_heap hq (by rw [hs, q1])⟩
      unfold stepPO
      rw [guard_same hsame, hg]
      exact q2 _ (uses_op hsame)
  unfold wpOpIn
  rw [ho]
  refine po_sound hcE hyE hF hM hrd hmatch hs2 fun c' w' a' hstep hf => hK F1 c' w' a' ?_ hrun
  have hgt : ∀ i, (∀ d, x.o.dst = some d → i ≠ d) → F1.tmps.getD i .junk = F.tmps.getD i .junk := by
    intro i hi
    rw [e1]
    cases hd : x.o.dst with
    | none => rfl
    | some d =>
      rw [put_getD, if_neg fun hx => hi d hd hx.1.symm]
  have hunl : ∀ i, ¬ unl (listed.setIfInBounds x.ix true) past i → ¬ unl listed past i := by
    rintro i hi ⟨y, hy, hyl, hyd⟩
    refine hi ⟨y, hy, ?_, hyd⟩
    cases hl : (listed.setIfInBounds x.ix true).getD y.ix false with
    | false => rfl
    | true =>
      rcases getD_set'.1 hl with h2 | ⟨h2, _⟩
      · rw [hyl] at h2; cases h2
      · have := ix_inj hS.pairs hxi (h.mem_its hy).1 h2
        subst this
        rw [(h.mem_its hy).2.2] at hxc
        cases hxc
  have hfr : FrU g c' w' F1 (unl (listed.setIfInBounds x.ix true) past) a' := by
    refine FrU.of hf (by rw [e1, put_len, put_len]; exact (maskU_length F.tmps).symm) (by rw [e1, put_heap, put_heap]) (by rw [e1, put_defers, put_defers]; rfl) fun i hi => ?_
    rw [e1]
    cases hd : x.o.dst with
    | none => exact (maskU_out (hunl i hi) F.tmps).symm
    | some d =>
      rw [put_getD, put_getD]
      have hlen : ({ F.mask (unl listed past) with heap := h1 } : Fr).tmps.length = F.tmps.length := maskU_length F.tmps
      rw [hlen]
      split
      · rfl
      · exact (maskU_out (hunl i hi) F.tmps).symm
  refine ⟨by rw [h.split]; simp, fun y => ?_, by simpa using h.size, closed_set h.closed ho hr, fun y hy hyc => ?_, fun y hy => ?_, by rw [e1, put_len]; exact h.len, hfr, fun y hy hyl => ?_, h.step.trans hstep⟩
  · rw [h.mem y, List.mem_append, List.mem_singleton]
    constructor
    · rintro ⟨h2, h3⟩; exact ⟨.inl h2, h3⟩
    · rintro ⟨h2 | h2, h3⟩
      · exact ⟨h2, h3⟩
      · rw [h2, hxc] at h3; cases h3
  · rcases List.mem_append.1 hy with hy | hy
    · exact getD_set'.2 (.inl (h.cl y hy hyc))
    · rw [List.mem_singleton.1 hy]
      exact getD_set'.2 (.inr ⟨rfl, hlt⟩)
  · cases hl : (listed.setIfInBounds x.ix true).getD y.ix false with
    | false => rfl
    | true =>
      rcases getD_set'.1 hl with h2 | ⟨h2, _⟩
      · rw [h.rl y (List.mem_cons_of_mem _ hy)] at h2; cases h2
      · exact absurd h2 (pairOK_ix (pairsOK_get hS.pairs h.split hy))
  · have hyl0 := getD_set_false hyl
    obtain ⟨hyi, hyp, hyc⟩ := h.mem_its hy
    obtain ⟨hR, d, hd, hu, _⟩ := hS.R hyi hyc
    obtain ⟨d', hd', hst⟩ := h.st y hy hyl0
    rw [hd] at hd'
    simp only [Option.some.injEq] at hd'
    subst hd'
    refine ⟨d, hd, ?_⟩
    have hpair := pre_pair hS h.split hyp
    obtain ⟨hck, hwr⟩ := pair_chk hpair hyc hxc
    have hnanc : y.ix ∉ x.anc := fun hm => by have := hanc _ hm; rw [hyl0] at this; cases this
    have huse : Same y.o.uses F.tmps F1.tmps := fun i hi => hgt i fun dx hdx e => hnanc (hwr dx hdx (e ▸ hi))
    have hdd : F1.tmps.getD d .junk = F.tmps.getD d .junk := hgt d fun dx hdx e => (pair_xR hpair hyc hd).2 (e ▸ hdx)
    -- phantoms stay phantoms
    have hph : ∀ s, y.o.op.slot = some s → c'.gen (F.nm s) = c.gen (F.nm s) → c'.obj (F.nm s) = c.obj (F.nm s) := fun s _ hg => hstep.obj _ (fun x => x) hg
    by_cases hqt : quiet g.E x.o F.tmps = true
    · have hh := hq hqt
      have hgen : ∀ nm ob, hget F.heap nm = some ob → c'.gen nm = c.gen nm := fun nm ob hob => by
        have e2 := (h.fr.hs.heap nm ob hob).gen
        have e3 := (hfr.hs.heap nm ob (by rw [e1, put_heap, hh]; exact hob)).gen
        exact e3.trans e2.symm
      cases hst with
      | lay hg s ob v' hs' hob hl hv hp hlt' =>
        have e3 := hgen _ _ hob
        have hst2 : Stable g.E c0 c F y.o d := .lay hg s ob v' hs' hob hl hv hp hlt'
        refine hst2.to hR (by rw [e1, put_lvl]) (by rw [e1, put_len]) huse hdd (.inl (by rw [e1, put_heap, hh]; exact HLe.refl _)) fun s2 hs2 => ?_
        rw [hs'] at hs2
        simp only [Option.some.injEq] at hs2
        subst hs2
        exact ⟨hph s hs' e3, e3⟩
      | off hg hv => exact .off ((guard_same huse).trans hg) (hdd.trans hv)
      | op hg hs' v' ce ye hh' hv =>
        have hst2 : Stable g.E c0 c F y.o d := .op hg hs' v' ce ye hh' hv
        exact hst2.to hR (by rw [e1, put_lvl]) (by rw [e1, put_len]) huse hdd (.inl (by rw [e1, put_heap, hh]; exact HLe.refl _)) fun s2 hs2 => by rw [hs'] at hs2; cases hs2
    · rcases hck with hk | ⟨hb, hn⟩ | hk
      · exact absurd hk hnanc
      · exact hst.to hR (by rw [e1, put_lvl]) (by rw [e1, put_len]) huse hdd (.inr ⟨hb, hn⟩) fun s2 hs2 => by rw [hn] at hs2; cases hs2
      · have hall : past.all (fun z => !x.chk.contains z.ix || stable g.E callE yieldE F1 z.o) = true := by simpa [hqt] using hchk
        have h2 := List.all_eq_true.1 hall y hy
        have hkc : x.chk.contains y.ix = true := by simpa using hk
        rw [hkc] at h2
        have hstb : stable g.E callE yieldE F1 y.o = true := by simpa using h2
        refine stable_spec hd hR hstb fun s k hs' hg1 hob1 hl1 => ?_
        have hnm : F1.nm s = F.nm s := by rw [e1]; simp [Fr.nm, put_lvl]
        rw [hnm] at hob1 hl1 ⊢
        cases hst with
        | off hg hv => rw [guard_same huse, hg] at hg1; cases hg1
        | op hg hs2 v' ce ye hh' hv => rw [hs'] at hs2; cases hs2
        | lay hg s2 ob v' hs2 hob hl hv hp hlt' =>
          rw [hs'] at hs2
          simp only [Option.some.injEq] at hs2
          subst hs2
          obtain ⟨ob1, hob1, hk1⟩ := hob1
          obtain ⟨ev1, ob2, hl1⟩ := hl1
          rw [hdd, hv] at hl1
          have hkk := layE_gen hl hl1
          have e2 := (h.fr.hs.heap _ _ hob).gen
          have e3 := (hfr.hs.heap _ _ hob1).gen
          have e4 : c'.gen (F.nm s) = c.gen (F.nm s) := by rw [e3, e2, hk1, hkk]
          exact ⟨(hph s hs' e4).trans hp, by rw [e4]; exact hlt'⟩

end Go.VI
