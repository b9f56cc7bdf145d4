/- A region that draws its order, whole. -/
import Derived.Test.YteodaifeknghaaaVi28
namespace Go.VI
variable {g : PG} {callE : CallE} {yieldE : Nm → List PV → Heap → Option (PV × Heap)} {rd : Bool} {os : Array Oper} {its : List DPO} {mxd : Nat} {md : Region.Mode}
variable {c0 c : Ctx} {w0 w : World} {pre past rest : List DPO} {listed : Array Bool} {F F1 Ff fr fr' : Fr} {a : Act} {Q : Exit → Act → World → Prop} {n : Nat} {ro : Option Nat}

theorem drop_sound : ∀ (its : List DPO) (F : Fr) (c : Ctx), FrRel g c w F a → ∃ c', Step N0 c w c' w ∧ FrRel g c' w (dropSl its F) a ∧ (dropSl its F).tmps = F.tmps
  | [], F, c, h => ⟨c, Step.refl c w, h, rfl⟩
  | it :: r, F, c, h => by
    unfold dropSl
    split
    · rename_i s _
      split
      · rename_i ob hob
        have hg := (h.heap _ _ hob).gen
        have hlt : c.gen (F.nm s) < ob.gen + 1 := by omega
        have h1 : FrRel g (c.lay (F.nm s) (ob.gen + 1) none) w { F with heap := hset F.heap (F.nm s) (.dead (ob.gen + 1)) } a :=
          FrRel.lay h ⟨Nat.le_of_lt hlt, fun e => by omega⟩ (hget_lt hob) (More.refl w) (p := none) (fun q b hq => by cases hq) (Ctx.lay_gen_self c _ _ _)
        obtain ⟨c', h2, h3, h4⟩ := drop_sound r _ _ h1
        exact ⟨c', (step_lay0 (More.refl w) hlt (fun q b hq => by cases hq)).trans h2, h3, h4⟩
      · exact drop_sound r F c h
    · exact drop_sound r F c h

theorem filter_less {p q : Nat → Bool} (hpq : ∀ x, q x = true → p x = true) {e : Nat} (hp : p e = true) (hq : q e = false) : ∀ (l : List Nat), e ∈ l → (l.filter q).length < (l.filter p).length
  | [], h => by cases h
  | x :: l, h => by
    have hle : ∀ l : List Nat, (l.filter q).length ≤ (l.filter p).length := by
      intro l
      induction l with
      | nil => simp
      | cons y l ih =>
        simp only [List.filter_cons]
        cases hqy : q y with
        | true => simp [hpq y hqy, ih]
        | false => cases p y <;> simp <;> omega
    rcases List.mem_cons.1 h with rfl | h
    · have := hle l
      simp only [List.filter_cons, hp, hq, if_true, Bool.false_eq_true, if_false, List.length_cons]
      omega
    · have := filter_less hpq hp hq l h
      simp only [List.filter_cons]
      cases hqx : q x with
      | true => simp [hpq x hqx]; omega
      | false => cases p x <;> simp <;> omega

def left (os : Array Oper) (listed : Array Bool) : Nat := ((List.range os.size).filter fun i => !listed.getD i false).length

theorem any_sound (hcE : CallSound g callE) (hyE : YieldSound g yieldE) (hF : FnsOK g) (hrd : ro ≠ none → rd = true) (hS : Stat g rd os its mxd) {L : List Nat} (hL : orderOK md os [] L = true) (hLs : ∀ i ∈ L, i < os.size) (hLa : ∀ i, i < os.size → i ∈ L)
    (hixs : ∀ i, i < os.size → ∃ x ∈ its, x.ix = i) (hQ : ∀ c' w' a', Step N0 c0 w0 c' w' → FrRel g c' w' Ff a' → Q .normal a' w') :
    ∀ (fuel : Nat) (pre past rest : List DPO) (listed : Array Bool) (F : Fr) (c : Ctx) (w : World) (a : Act), DI g os its mxd md c0 w0 pre past rest listed F c w a → (∀ x r, rest = x :: r → x.isC = true) → runD g.E callE yieldE past rest F = some Ff → left os listed ≤ fuel →
      wpAnyIn (wR ro) n g.P md os Q fuel listed a w := by
  have fin : ∀ (pre past rest : List DPO) (listed : Array Bool) (F : Fr) (c : Ctx) (w : World) (a : Act), DI g os its mxd md c0 w0 pre past rest listed F c w a → runD g.E callE yieldE past rest F = some Ff → (∀ i, i < os.size → listed.getD i false = true) → Q .normal a w := by
    intro pre past rest listed F c w a h hrun hall
    have hrest : rest = [] := by
      cases hr : rest with
      | nil => rfl
      | cons x r =>
        have hx : x ∈ its := by rw [h.split, hr]; simp
        have h1 := h.rl x (by rw [hr]; simp)
        rw [hall _ (hS.item x hx).1] at h1
        cases h1
    subst hrest
    simp only [runD, Option.some.injEq] at hrun
    subst hrun
    refine hQ c w a h.step (h.fr.rel ?_)
    rintro i ⟨y, hy, hyl, _⟩
    rw [hall _ (hS.item y (h.mem_its hy).1).1] at hyl
    cases hyl
  intro fuel
  induction fuel with
  | zero =>
    intro pre past rest listed F c w a h hhd hrun hleft
    have hall : ∀ i, i < os.size → listed.getD i false = true := by
      intro i hi
      have hnil : (List.range os.size).filter (fun i => !listed.getD i false) = [] := List.eq_nil_of_length_eq_zero (by unfold left at hleft; omega)
      have := List.filter_eq_nil_iff.1 hnil i (List.mem_range.2 hi)
      simpa using this
    refine ⟨?_, fin _ _ _ _ _ _ _ _ h hrun hall⟩
    cases hr : Region.ready md os listed with
    | nil => rfl
    | cons i l =>
      have hi : i ∈ Region.ready md os listed := by rw [hr]; simp
      obtain ⟨h1, o, ho, _⟩ := mem_ready.1 hi
      have hlt := agetElem?_some_lt ho
      have h2 := hall i hlt
      rw [Array.getD_eq_getD_getElem?] at h1 h2
      have : i < listed.size := by rw [h.size]; exact hlt
      rw [Array.getElem?_eq_getElem this] at h1 h2
      simp at h1 h2
      rw [h1] at h2
      cases h2
  | succ fuel ih =>
    intro pre past rest listed F c w a h hhd hrun hleft
    refine ⟨fun hr => fin _ _ _ _ _ _ _ _ h hrun fun i hi => progress hr L [] hL (fun i hi => by cases hi) hLs h.size i (hLa i hi), fun i hi => ?_⟩
    obtain ⟨h1, o, ho, hpre⟩ := mem_ready.1 hi
    have hlt := agetElem?_some_lt ho
    have hls : i < listed.size := by rw [h.size]; exact hlt
    have hun : listed.getD i false = false := by
      rw [Array.getD_eq_getD_getElem?] at h1 ⊢
      rw [Array.getElem?_eq_getElem hls] at h1 ⊢
      simpa using h1
    have hless : left os (listed.setIfInBounds i true) ≤ fuel := by
      have := filter_less (p := fun k => !listed.getD k false) (q := fun k => !(listed.setIfInBounds i true).getD k false) (fun k hk => by
        have : (listed.setIfInBounds i true).getD k false = false := by simpa using hk
        simp [getD_set_false this]) (e := i) (by simp [hun]) (by simp [getD_set'.2 (.inr ⟨rfl, hls⟩)]) (List.range os.size) (List.mem_range.2 hlt)
      unfold left at hleft ⊢
      omega
    obtain ⟨x, hx, rfl⟩ := hixs i hlt
    rw [h.split] at hx
    rcases List.mem_append.1 hx with hxp | hxr
    · have hxc : x.isC = false := by
        cases hc : x.isC with
        | false => rfl
        | true => rw [h.cl x hxp hc] at hun; cases hun
      exact h.pickR hcE hyE hF hrd hS ((h.mem x).2 ⟨hxp, hxc⟩) hun ho hpre fun c' w' a' h' => ih _ _ _ _ _ c' w' a' h' hhd hrun hless
    · cases hr : rest with
      | nil => rw [hr] at hxr; cases hxr
      | cons z r =>
        have hzc := hhd z r hr
        subst hr
        rcases List.mem_cons.1 hxr with e | hxr'
        · subst e
          refine h.pickC hcE hyE hF hrd hS hzc hrun ho hpre fun F1 c' w' a' h' hrun' => ?_
          obtain ⟨pre2, past2, rest2, F2, c2, h2, hrun2, hhd2⟩ := h'.advance hS _ _ _ _ _ hrun'
          exact ih _ _ _ _ _ c2 w' a' h2 hhd2 hrun2 hless
        · have hp := pairsOK_get hS.pairs h.split hxr'
          have hxi : x ∈ its := by rw [h.split]; exact List.mem_append_right _ (List.mem_cons_of_mem _ hxr')
          have hanc := ready_anc hS.anc h.closed hxi ho hpre
          have := hanc _ (pair_xC hp hzc)
          rw [h.rl z (List.mem_cons_self ..)] at this
          cases this

theorem drew_ext (w : World) : Ext c w c { w with drawn := w.drawn + 1 } := ⟨Nat.le_refl _, rfl, rfl, rfl, rfl, fun _ h => h, fun _ h => .inl h, fun _ _ => rfl⟩

theorem draw_sound (hcE : CallSound g callE) (hyE : YieldSound g yieldE) (hF : FnsOK g) (h : FrRel g c w fr a) (hrd : ro ≠ none → rd = true) {id : Nat} {gcL : List Nat} (hm : g.drawOK rd os its gcL mxd = true) (hlen : Nat.ble mxd fr.tmps.length = true) (hs : runD g.E callE yieldE [] its (dropSl its fr) = some fr') (hK : Goes g c w fr' (Q .normal)) :
    (Code.region id os true).wpIn (wR ro) n g.P Q a w := by
  unfold PG.drawOK at hm
  simp only [Bool.and_eq_true] at hm
  obtain ⟨⟨⟨⟨⟨⟨⟨h1, h2⟩, h3⟩, h4⟩, h5⟩, h6⟩, h7⟩, h8⟩ := hm
  have hS : Stat g rd os its mxd := by
    refine ⟨fun i hi => ?_, fun x hx => ?_, h3⟩
    · have := List.all_eq_true.1 h1 i (List.mem_range.2 hi)
      obtain ⟨x, hx, he⟩ := List.any_eq_true.1 this
      exact ⟨x, hx, beq_nat he⟩
    · have := List.all_eq_true.1 h2 x hx
      simp only [Bool.and_eq_true] at this
      refine ⟨by simpa using this.1.1, this.1.2, fun d hd => ?_⟩
      have h9 := this.2
      rw [hd] at h9
      simpa using h9
  have key : ∀ (md : Region.Mode) (L : List Nat), orderOK md os [] L = true → (∀ i ∈ L, i < os.size) → (∀ i, i < os.size → i ∈ L) → ∀ t, wpOpsIn (wR ro) n g.P os Q (Region.linearise md os t) a { w with drawn := w.drawn + 1 } := by
    intro md L hL hLs hLa t
    have h0 := (drew_ext (c := c) w).frRel h
    obtain ⟨c1, hst1, hF1, ht1⟩ := drop_sound its fr c h0
    have hDI : DI g os its mxd md c { w with drawn := w.drawn + 1 } [] [] its (Array.replicate os.size false) (dropSl its fr) c1 { w with drawn := w.drawn + 1 } a := by
      have hfalse : ∀ i, (Array.replicate os.size false).getD i false = false := by
        intro i
        rw [Array.getD_eq_getD_getElem?, Array.getElem?_replicate]
        split <;> rfl
      refine ⟨rfl, fun x => by simp, by simp, fun i o e hi => ?_, (fun x hx => by cases hx), fun x _ => hfalse _, by rw [ht1]; exact Nat.le_of_ble_eq_true hlen, ?_, fun x hx => (by cases hx), hst1⟩
      · rw [hfalse] at hi; cases hi
      · exact ⟨hF1.size, fun i _ => hF1.tmps i, hF1.hs, hF1.defs⟩
    obtain ⟨pre2, past2, rest2, F2, c2, h2', hrun2, hhd2⟩ := hDI.advance hS _ _ _ _ _ hs
    have := any_sound (n := n) (Q := Q) hcE hyE hF hrd hS hL hLs hLa hS.all (fun c' w' a' hst hf => hK c' w' a' ((drew_ext w).step.trans hst) hf) os.size pre2 past2 rest2 _ F2 c2 _ a h2' hhd2 hrun2 (by
      unfold left
      exact Nat.le_trans (List.length_filter_le _ _) (by simp))
    exact wpAnyIn_sound os.size t _ a _ this
  have hr1 : ∀ i ∈ List.range os.size, i < os.size := fun i hi => List.mem_range.1 hi
  have hr2 : ∀ i, i < os.size → i ∈ List.range os.size := fun i hi => List.mem_range.2 hi
  refine wpIn_region_draw fun t => ?_
  unfold Region.schedule
  split
  · exact key .any _ h4 hr1 hr2 t
  · split
    · exact key .text _ h5 hr1 hr2 _
    · exact key .gc gcL h6 (fun i hi => by simpa using List.all_eq_true.1 h7 i hi) (fun i hi => by simpa using List.all_eq_true.1 h8 i (List.mem_range.2 hi)) _

end Go.VI
