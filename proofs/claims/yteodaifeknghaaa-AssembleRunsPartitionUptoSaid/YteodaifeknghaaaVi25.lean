/- A region that draws its order: whatever order is drawn, what VI says comes out. -/
import Derived.Test.YteodaifeknghaaaVi24
namespace Go.VI
variable {g : PG} {callE : CallE} {yieldE : Nm → List PV → Heap → Option (PV × Heap)} {rd : Bool} {os : Array Oper} {its : List DPO} {mxd : Nat} {md : Region.Mode}

/-- The destinations of what VI has taken and the machine has not. -/
def unl (listed : Array Bool) (past : List DPO) : Nat → Prop := fun i => ∃ x ∈ past, listed.getD x.ix false = false ∧ x.o.dst = some i

structure DI (g : PG) (os : Array Oper) (its : List DPO) (mxd : Nat) (md : Region.Mode) (c0 : Ctx) (w0 : World) (pre past rest : List DPO) (listed : Array Bool) (F : Fr) (c : Ctx) (w : World) (a : Act) : Prop where
  split : its = pre ++ rest
  mem : ∀ x, x ∈ past ↔ x ∈ pre ∧ x.isC = false
  size : listed.size = os.size
  closed : ClosedL md os listed
  cl : ∀ x ∈ pre, x.isC = true → listed.getD x.ix false = true
  rl : ∀ x ∈ rest, listed.getD x.ix false = false
  len : mxd ≤ F.tmps.length
  fr : FrU g c w F (unl listed past) a
  st : ∀ x ∈ past, listed.getD x.ix false = false → ∃ d, x.o.dst = some d ∧ Stable g.E c0 c F x.o d
  step : Step N0 c0 w0 c w

/-- What the static check gives. -/
structure Stat (g : PG) (rd : Bool) (os : Array Oper) (its : List DPO) (mxd : Nat) : Prop where
  all : ∀ i, i < os.size → ∃ x ∈ its, x.ix = i
  item : ∀ x ∈ its, x.ix < os.size ∧ g.itemOK rd os its x = true ∧ ∀ d, x.o.dst = some d → d < mxd
  pairs : pairsOK its = true

theorem Stat.R (h : Stat g rd os its mxd) {x : DPO} (hx : x ∈ its) (hc : x.isC = false) : (x.o.op.bare || x.o.op.reads || x.o.op.slot.isSome) = true ∧ ∃ d, x.o.dst = some d ∧ d ∉ x.o.uses ∧ d < mxd := by
  obtain ⟨_, h1, h2⟩ := h.item x hx
  unfold PG.itemOK at h1
  simp only [hc, Bool.and_eq_true] at h1
  obtain ⟨_, h3, h4⟩ := h1
  refine ⟨h3, ?_⟩
  split at h4
  · cases h4
  · rename_i d hd
    exact ⟨d, hd, by simpa using h4, h2 d hd⟩

theorem Stat.C (h : Stat g rd os its mxd) {x : DPO} (hx : x ∈ its) (hc : x.isC = true) : x.o.op.fixed = true := by
  obtain ⟨_, h1, _⟩ := h.item x hx
  unfold PG.itemOK at h1
  simp only [hc, Bool.and_eq_true] at h1
  exact h1.2

theorem Stat.op (h : Stat g rd os its mxd) {x : DPO} (hx : x ∈ its) : ∃ o, os[x.ix]? = some o ∧ g.matchPO rd os x.o o = true := by
  obtain ⟨_, h1, _⟩ := h.item x hx
  unfold PG.itemOK at h1
  simp only [Bool.and_eq_true] at h1
  have h2 := h1.1.1
  split at h2
  · rename_i o ho; exact ⟨o, ho, h2⟩
  · cases h2

theorem Stat.anc (h : Stat g rd os its mxd) : ∀ x ∈ its, x.anc.all (edgeOK os its x) = true := by
  intro x hx
  obtain ⟨_, h1, _⟩ := h.item x hx
  unfold PG.itemOK at h1
  simp only [Bool.and_eq_true] at h1
  exact h1.1.2

/-- x stands before y, y is no fixed one: y's destination is none of x's concern. -/
theorem pair_yR {x y : DPO} (h : pairOK x y = true) (hy : y.isC = false) {d : Nat} (hd : y.o.dst = some d) : d ∉ x.o.uses ∧ x.o.dst ≠ some d := by
  unfold pairOK at h
  simp only [hy, hd, Bool.and_eq_true, Bool.not_eq_true', decide_eq_false_iff_not] at h
  exact ⟨by simpa using h.2.1, h.2.2⟩

/-- x stands before y, x is no fixed one. -/
theorem pair_xR {x y : DPO} (h : pairOK x y = true) (hx : x.isC = false) {d : Nat} (hd : x.o.dst = some d) : (d ∈ y.o.uses → x.ix ∈ y.anc) ∧ y.o.dst ≠ some d := by
  unfold pairOK at h
  simp only [hx, hd, Bool.and_eq_true, Bool.not_eq_true', decide_eq_false_iff_not, Bool.or_eq_true] at h
  obtain ⟨⟨_, ⟨h1, h2⟩, _⟩, _⟩ := h
  refine ⟨fun hm => ?_, h2⟩
  rcases h1 with h1 | h1
  · exact absurd hm (by simpa using h1)
  · simpa using h1

theorem pair_xC {x y : DPO} (h : pairOK x y = true) (hx : x.isC = true) : x.ix ∈ y.anc := by
  unfold pairOK at h
  simp only [hx, Bool.and_eq_true] at h
  simpa using h.1.2

theorem pair_slots {x y : DPO} (h : pairOK x y = true) (hx : x.isC = false) (hy : y.isC = false) {s : Nat} (hs : x.o.op.slot = some s) : y.o.op.slot ≠ some s := by
  unfold pairOK at h
  simp only [hx, hy, Bool.and_eq_true] at h
  obtain ⟨⟨_, _, h1⟩, _⟩ := h
  intro h2
  simp [hs, h2] at h1

theorem pair_chk {x y : DPO} (h : pairOK x y = true) (hx : x.isC = false) (hy : y.isC = true) : (x.ix ∈ y.anc ∨ (x.o.op.bare = true ∧ x.o.op.slot = none) ∨ x.ix ∈ y.chk) ∧ ∀ d, y.o.dst = some d → d ∈ x.o.uses → x.ix ∈ y.anc := by
  unfold pairOK at h
  simp only [hx, hy, Bool.and_eq_true] at h
  obtain ⟨⟨_, _, h1, h2⟩, _⟩ := h
  refine ⟨?_, fun d hd hm => ?_⟩
  · simp only [Bool.or_eq_true, Bool.and_eq_true] at h1
    rcases h1 with (h1 | ⟨h1, h3⟩) | h1
    · exact .inl (by simpa using h1)
    · exact .inr (.inl ⟨h1, by simpa using h3⟩)
    · exact .inr (.inr (by simpa using h1))
  · rw [hd] at h2
    simp only [Bool.or_eq_true, Bool.not_eq_true'] at h2
    rcases h2 with h2 | h2
    · exact absurd hm (by simpa using h2)
    · simpa using h2

theorem fresh_spec {F : Fr} {o : PPO} {s : Nat} (h : freshSlot F o = true) (hs : o.op.slot = some s) : (match hget F.heap (F.nm s) with | none => True | some (.dead _) => True | _ => False) := by
  unfold freshSlot at h
  rw [hs] at h
  simp only at h
  split at h <;> simp_all

/-- What an operation of no fixed place does to VI's frame. -/
theorem stepR {E : Env} {F F1 : Fr} {o : PPO} {d : Nat} (hd : o.dst = some d) (hR : (o.op.bare || o.op.reads || o.op.slot.isSome) = true) (hs : stepPO E callE yieldE o F = some F1) (hlen : d < F.tmps.length) (hu : d ∉ o.uses) (hfresh : freshSlot F o = true) :
    ∃ h1 v, F1 = ({ F with heap := h1 } : Fr).put (some d) v ∧ HLe F.heap h1 ∧
      ((h1 = F.heap ∧ (guardE F.tmps o.guard = some true → o.op.slot = none)) ∨ ∃ s ob, o.op.slot = some s ∧ guardE F.tmps o.guard = some true ∧ s < (F.heap.getD F.lvl []).length ∧ h1 = hset F.heap (F.nm s) ob ∧ ob.gen = nextGen F.heap (F.nm s)) ∧
      ∀ (c0 c : Ctx), (∀ s, o.op.slot = some s → guardE F.tmps o.guard = some true → c.obj (F.nm s) = none ∧ c0.gen (F.nm s) < c.gen (F.nm s)) → Stable E c0 c F1 o d := by
  have hsame : ∀ (h1 : Heap) (v : PV), Same o.uses F.tmps (({ F with heap := h1 } : Fr).put (some d) v).tmps := by
    intro h1 v i hi
    rw [put_getD]
    split
    · rename_i hx; exact absurd (hx.1 ▸ hi) hu
    · rfl
  have hgetd : ∀ (h1 : Heap) (v : PV), (({ F with heap := h1 } : Fr).put (some d) v).tmps.getD d .junk = v := fun h1 v => by rw [put_getD, if_pos ⟨rfl, hlen⟩]
  unfold stepPO at hs
  split at hs
  · cases hs
  · rename_i hg
    simp only [Option.some.injEq] at hs
    rw [hd] at hs
    refine ⟨F.heap, .tuple [], hs.symm, HLe.refl _, .inl ⟨rfl, fun hx => by rw [hg] at hx; cases hx⟩, fun c0 c _ => ?_⟩
    subst hs
    exact .off ((guard_same (hsame F.heap _)).trans hg) (hgetd F.heap _)
  · rename_i hg
    rw [hd] at hs
    cases hsl : o.op.slot with
    | none =>
      have hcase : ∃ v, F1 = F.put (some d) v ∧ ∀ fr2 callE2 yieldE2, Same o.op.uses F.tmps fr2.tmps → HLe F.heap fr2.heap → stepOp E callE2 yieldE2 (some d) o.op fr2 = some (fr2.put (some d) v) := by
        by_cases hb : o.op.bare = true
        · obtain ⟨v, h1, h2⟩ := bare_same hb hs; exact ⟨v, h1, fun fr2 a b h _ => h2 fr2 a b h⟩
        · have hr : o.op.reads = true := by simpa [hsl, hb] using hR
          exact reads_same hr hs
      obtain ⟨v, h1, h2⟩ := hcase
      refine ⟨F.heap, v, h1, HLe.refl _, .inl ⟨rfl, fun _ => rfl⟩, fun c0 c _ => ?_⟩
      subst h1
      refine .op ((guard_same (hsame F.heap _)).trans hg) hsl v callE yieldE ?_ (hgetd F.heap _)
      exact h2 _ callE yieldE (uses_op (hsame F.heap v)) (by rw [put_heap]; exact HLe.refl _)
    | some s =>
      rw [lay_slot' hsl] at hs
      unfold Fr.lay at hs
      split at hs
      case isFalse => cases hs
      rename_i hlen'
      split at hs <;> simp only [Option.some.injEq, reduceCtorEq] at hs
      rename_i v ob hl
      have hgen := (layE_ob hl).2
      refine ⟨_, v, hs.symm, HLe.hset (fresh_spec hfresh hsl), .inr ⟨s, ob, rfl, hg, hlen', rfl, hgen⟩, fun c0 c hp => ?_⟩
      subst hs
      obtain ⟨p1, p2⟩ := hp s rfl hg
      refine .lay ((guard_same (hsame _ _)).trans hg) s ob v hsl ?_ ?_ (hgetd _ _) p1 p2
      · show hget (hset F.heap (F.nm s) ob) (F.nm s) = some ob
        exact hget_hset_self hlen'
      · rw [lay_same hsl (uses_op (hsame _ v)), hgen]
        exact hl
where
  lay_slot' {E : Env} {fr : Fr} {s : Nat} {dst : Option Nat} {p : POp} (hp : p.slot = some s) : stepOp E callE yieldE dst p fr = fr.lay dst s (layE (evX E fr.tmps) (fr.nm s) p) := by
    cases p <;> simp [POp.slot] at hp <;> subst hp <;> rfl

end Go.VI
