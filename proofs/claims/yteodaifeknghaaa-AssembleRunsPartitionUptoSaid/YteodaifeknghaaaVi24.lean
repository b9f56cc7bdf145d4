/- The state in the midst of a region that draws its order. -/
import Derived.Test.YteodaifeknghaaaVi23
namespace Go.VI
variable {g : PG} {c c' c0 : Ctx} {w w' : World} {fr fr' F F' : Fr} {a : Act} {callE : CallE} {yieldE : Nm → List PV → Heap → Option (PV × Heap)} {E : Env} {U : Nat → Prop}

open Classical in
/-- Temporaries that are not there yet. -/
noncomputable def maskU (U : Nat → Prop) (t : List PV) : List PV := t.mapIdx fun i v => if U i then .junk else v

theorem maskU_length (t : List PV) : (maskU U t).length = t.length := by simp [maskU]

theorem maskU_in {i : Nat} (h : U i) (t : List PV) : (maskU U t).getD i .junk = .junk := by
  simp only [maskU, List.getD, List.getElem?_mapIdx, if_pos h]
  cases t[i]? <;> rfl

theorem maskU_out {i : Nat} (h : ¬ U i) (t : List PV) : (maskU U t).getD i .junk = t.getD i .junk := by
  simp only [maskU, List.getD, List.getElem?_mapIdx]
  cases t[i]? with
  | none => rfl
  | some v => simp [h]

/-- As 'FrRel', but for the temporaries U. -/
structure FrU (g : PG) (c : Ctx) (w : World) (F : Fr) (U : Nat → Prop) (a : Act) : Prop where
  size : F.tmps.length = a.tmps.size
  tmps : ∀ i, ¬ U i → VRel c w (F.tmps.getD i .junk) (a.tmps.getD i undef)
  hs : HS g c w F.heap
  defs : DefRel g.lo c w F.defers a.defers

noncomputable def Fr.mask (F : Fr) (U : Nat → Prop) : Fr := { F with tmps := maskU U F.tmps }

theorem FrU.mask (h : FrU g c w F U a) : FrRel g c w (F.mask U) a := by
  refine ⟨(maskU_length F.tmps).trans h.size, fun i => ?_, h.hs.heap, h.hs.wf, h.defs, h.hs.hn⟩
  show VRel c w ((maskU U F.tmps).getD i .junk) _
  by_cases hi : U i
  · rw [maskU_in hi]; exact .i _ _ (.junk _)
  · rw [maskU_out hi]; exact h.tmps i hi

theorem FrU.of (h : FrRel g c w fr a) (hl : F.tmps.length = fr.tmps.length) (hh : F.heap = fr.heap) (hd : F.defers = fr.defers) (ht : ∀ i, ¬ U i → F.tmps.getD i .junk = fr.tmps.getD i .junk) : FrU g c w F U a :=
  ⟨hl.trans h.size, fun i hi => by rw [ht i hi]; exact h.tmps i, hh ▸ h.hs, hd ▸ h.defs⟩

theorem FrU.rel (h : FrU g c w F U a) (hU : ∀ i, ¬ U i) : FrRel g c w F a := ⟨h.size, fun i => h.tmps i (hU i), h.hs.heap, h.hs.wf, h.defs, h.hs.hn⟩

theorem FrU.mono {U' : Nat → Prop} (h : FrU g c w F U a) (hU : ∀ i, U i → U' i) : FrU g c w F U' a := ⟨h.size, fun i hi => h.tmps i fun x => hi (hU i x), h.hs, h.defs⟩

theorem put_getD (fr : Fr) (d : Nat) (v : PV) (i : Nat) : (fr.put (some d) v).tmps.getD i .junk = if d = i ∧ d < fr.tmps.length then v else fr.tmps.getD i .junk := by
  show (fr.tmps.set d v).getD i .junk = _
  simp only [List.getD, List.getElem?_set]
  by_cases h : d = i
  · subst h
    by_cases hl : d < fr.tmps.length
    · simp [hl]
    · simp [hl]
  · simp [h]

theorem put_len (fr : Fr) (dst : Option Nat) (v : PV) : (fr.put dst v).tmps.length = fr.tmps.length := by cases dst <;> simp [Fr.put]
theorem put_heap (fr : Fr) (dst : Option Nat) (v : PV) : (fr.put dst v).heap = fr.heap := by cases dst <;> rfl
theorem put_lvl (fr : Fr) (dst : Option Nat) (v : PV) : (fr.put dst v).lvl = fr.lvl := by cases dst <;> rfl
theorem put_defers (fr : Fr) (dst : Option Nat) (v : PV) : (fr.put dst v).defers = fr.defers := by cases dst <;> rfl

theorem guard_same {o : PPO} {t t' : List PV} (h : Same o.uses t t') : guardE t' o.guard = guardE t o.guard := by
  cases hg : o.guard with
  | none => rfl
  | some x =>
    obtain ⟨i, b⟩ := x
    have : t'.getD i .junk = t.getD i .junk := h i (by simp [PPO.uses, hg])
    simp only [guardE, this]

theorem layE_gen {ev ev' : PX → PV} {nm : Nm} {p : POp} {k k' : Nat} {v : PV} {ob ob' : Ob} (h : layE ev nm p k = some (v, ob)) (h' : layE ev' nm p k' = some (v, ob')) : k = k' := by
  cases p <;> simp only [layE, reduceCtorEq] at h h'
  case vec => simp only [Option.some.injEq, Prod.mk.injEq] at h h'; rw [← h.1] at h'; simpa using h'.1.symm
  case alloc => simp only [Option.some.injEq, Prod.mk.injEq] at h h'; rw [← h.1] at h'; simpa using h'.1.symm
  case box =>
    split at h <;> simp only [Option.some.injEq, Prod.mk.injEq, reduceCtorEq] at h
    split at h' <;> simp only [Option.some.injEq, Prod.mk.injEq, reduceCtorEq] at h'
    rw [← h.1] at h'; simpa using h'.1.symm
  case bslm =>
    split at h
    case h_2 => cases h
    split at h <;> simp only [Option.some.injEq, Prod.mk.injEq, reduceCtorEq] at h
    split at h'
    case h_2 => cases h'
    split at h' <;> simp only [Option.some.injEq, Prod.mk.injEq, reduceCtorEq] at h'
    rw [← h.1] at h'
    simp only [PV.sl.injEq] at h'
    exact h'.1.2.1.symm
  case mkmap => simp only [Option.some.injEq, Prod.mk.injEq] at h h'; rw [← h.1] at h'; simpa using h'.1.symm
  case mkslice =>
    split at h
    case h_2 => cases h
    split at h <;> simp only [Option.some.injEq, Prod.mk.injEq, reduceCtorEq] at h
    split at h'
    case h_2 => cases h'
    split at h' <;> simp only [Option.some.injEq, Prod.mk.injEq, reduceCtorEq] at h'
    rw [← h.1] at h'
    simp only [PV.sl.injEq] at h'
    exact h'.1.2.1.symm

theorem layE_ob {ev : PX → PV} {nm : Nm} {p : POp} {k : Nat} {v : PV} {ob : Ob} (h : layE ev nm p k = some (v, ob)) : (∀ j, ob ≠ .dead j) ∧ ob.gen = k := by
  cases p <;> simp only [layE, reduceCtorEq] at h
  case vec => simp only [Option.some.injEq, Prod.mk.injEq] at h; rw [← h.2]; exact ⟨by simp, rfl⟩
  case alloc => simp only [Option.some.injEq, Prod.mk.injEq] at h; rw [← h.2]; exact ⟨by simp, rfl⟩
  case box =>
    split at h <;> simp only [Option.some.injEq, Prod.mk.injEq, reduceCtorEq] at h
    rw [← h.2]; exact ⟨by simp, rfl⟩
  case bslm =>
    split at h
    case h_2 => cases h
    split at h <;> simp only [Option.some.injEq, Prod.mk.injEq, reduceCtorEq] at h
    rw [← h.2]; exact ⟨by simp, rfl⟩
  case mkmap => simp only [Option.some.injEq, Prod.mk.injEq] at h; rw [← h.2]; exact ⟨by simp, rfl⟩
  case mkslice =>
    split at h
    case h_2 => cases h
    split at h <;> simp only [Option.some.injEq, Prod.mk.injEq, reduceCtorEq] at h
    rw [← h.2]; exact ⟨by simp, rfl⟩

/-- An operation that was taken before would say the same now; what it laid is not yet in memory. -/
inductive Stable (E : Env) (c0 c : Ctx) (F : Fr) (o : PPO) (d : Nat) : Prop
  | off (hg : guardE F.tmps o.guard = some false) (hv : F.tmps.getD d .junk = .tuple [])
  | op (hg : guardE F.tmps o.guard = some true) (hs : o.op.slot = none) (v : PV) (callE : CallE) (yieldE : Nm → List PV → Heap → Option (PV × Heap)) (h : stepOp E callE yieldE (some d) o.op F = some (F.put (some d) v)) (hv : F.tmps.getD d .junk = v)
  | lay (hg : guardE F.tmps o.guard = some true) (s : Nat) (ob : Ob) (v : PV) (hs : o.op.slot = some s) (ho : hget F.heap (F.nm s) = some ob) (h : layE (evX E F.tmps) (F.nm s) o.op ob.gen = some (v, ob)) (hv : F.tmps.getD d .junk = v)
      (hp : c.obj (F.nm s) = none) (hlt : c0.gen (F.nm s) < c.gen (F.nm s))

theorem uses_op {o : PPO} {t t' : List PV} (h : Same o.uses t t') : Same o.op.uses t t' := h.l

theorem Stable.to {o : PPO} {d : Nat} (h : Stable E c0 c F o d) (hR : (o.op.bare || o.op.reads || o.op.slot.isSome) = true) (hl : F'.lvl = F.lvl) (hlen : F'.tmps.length = F.tmps.length) (hsm : Same o.uses F.tmps F'.tmps) (hd : F'.tmps.getD d .junk = F.tmps.getD d .junk)
    (hh : HLe F.heap F'.heap ∨ (o.op.bare = true ∧ o.op.slot = none)) (hc : ∀ s, o.op.slot = some s → c'.obj (F.nm s) = c.obj (F.nm s) ∧ c'.gen (F.nm s) = c.gen (F.nm s)) : Stable E c0 c' F' o d := by
  have hg' := guard_same hsm
  cases h with
  | off hg hv => exact .off (hg'.trans hg) (hd.trans hv)
  | op hg hs v ce ye h hv =>
    refine .op (hg'.trans hg) hs v ce ye ?_ (hd.trans hv)
    have inj : ∀ v', F.put (some d) v = F.put (some d) v' → F'.put (some d) v' = F'.put (some d) v := by
      intro v' he
      have hle : (F.put (some d) v).tmps.getD d .junk = (F.put (some d) v').tmps.getD d .junk := by rw [he]
      rw [put_getD, put_getD] at hle
      by_cases hlt : d < F.tmps.length
      · simp only [true_and, hlt, if_true] at hle
        rw [hle]
      · show ({ F' with tmps := F'.tmps.set d v' } : Fr) = { F' with tmps := F'.tmps.set d v }
        rw [List.set_eq_of_length_le (by omega), List.set_eq_of_length_le (by omega)]
    by_cases hb : o.op.bare = true
    · obtain ⟨v', e1, h2⟩ := bare_same hb h
      rw [h2 F' ce ye (uses_op hsm), inj v' e1]
    · have hr : o.op.reads = true := by simpa [hs, hb] using hR
      obtain ⟨v', e1, h2⟩ := reads_same hr h
      rcases hh with hh | ⟨hb', _⟩
      · rw [h2 F' ce ye (uses_op hsm) hh, inj v' e1]
      · exact absurd hb' hb
  | lay hg s ob v hs ho h hv hp hlt =>
    have hnm : F'.nm s = F.nm s := by simp [Fr.nm, hl]
    refine .lay (hg'.trans hg) s ob v hs ?_ ?_ (hd.trans hv) ?_ ?_
    · rcases hh with hh | ⟨_, hn⟩
      · rw [hnm]; exact hh _ _ ho (layE_ob h).1
      · rw [hs] at hn; cases hn
    · rw [hnm, lay_same hs (uses_op hsm)]; exact h
    · rw [hnm, (hc s hs).1]; exact hp
    · rw [hnm, (hc s hs).2]; exact hlt

theorem hget_hset_same {h : Heap} {n : Nm} {ob : Ob} (hg : hget h n = some ob) : hset h n ob = h := by
  unfold hset
  apply List.ext_getElem?
  intro i
  rw [List.getElem?_modify]
  unfold hget at hg
  by_cases hi : n.1 = i
  · subst hi
    cases ht : h[n.1]? with
    | none => simp
    | some t =>
      simp only [ht, Option.bind_some] at hg
      simp only [if_true, Option.map_eq_map, Option.map_some, Option.some.injEq]
      apply List.ext_getElem?
      intro j
      rw [List.getElem?_set]
      by_cases hj : n.2 = j
      · subst hj
        cases hx : t[n.2]? with
        | none => simp [hx] at hg
        | some x =>
          simp only [hx, Option.bind_some, id_eq] at hg
          have := getElem?_some_lt hx
          simp [this, hg]
      · simp [hj]
  · simp [hi]

theorem HLe.hset {h : Heap} {n : Nm} {ob : Ob} (hf : match hget h n with | none => True | some (.dead _) => True | _ => False) : HLe h (hset h n ob) := by
  intro m o ho hd
  by_cases hm : m = n
  · subst hm
    rw [ho] at hf
    cases o with
    | dead k => exact absurd rfl (hd k)
    | _ => simp at hf
  · rw [hget_hset_ne hm]; exact ho

mutual
theorem same_eq : ∀ (a b : PV), PV.same a b = true → a = b
  | .bool _, b, h => by cases b <;> simp_all [PV.same]
  | .int _ _, b, h => by cases b <;> simp_all [PV.same]
  | .str _, b, h => by cases b <;> simp_all [PV.same]
  | .agg x, b, h => by
    cases b <;> simp only [PV.same, reduceCtorEq] at h
    rw [sameL_eq x _ h]
  | .vs f x, b, h => by
    cases b <;> simp only [PV.same, reduceCtorEq, Bool.and_eq_true, decide_eq_true_eq] at h
    rw [sameL_eq x _ h.2, h.1]
  | .sl _ _ _ _, b, h => by cases b <;> simp_all [PV.same]
  | .ptr _ _ _ _, b, h => by cases b <;> simp_all [PV.same]
  | .nilp, b, h => by cases b <;> simp_all [PV.same]
  | .ip x, b, h => by
    cases b <;> simp only [PV.same, reduceCtorEq] at h
    rw [sameL_eq x _ h]
  | .map _ _, b, h => by cases b <;> simp_all [PV.same]
  | .nilmap, b, h => by cases b <;> simp_all [PV.same]
  | .fn f x y, b, h => by
    cases b <;> simp only [PV.same, reduceCtorEq, Bool.and_eq_true, beq_iff_eq] at h
    rw [sameL_eq x _ h.1.2, sameL_eq y _ h.2, h.1.1]
  | .nilfn, b, h => by cases b <;> simp_all [PV.same]
  | .nili, b, h => by cases b <;> simp_all [PV.same]
  | .tuple x, b, h => by
    cases b <;> simp only [PV.same, reduceCtorEq] at h
    rw [sameL_eq x _ h]
  | .junk, b, h => by cases b <;> simp [PV.same] at h
  | .yld _ _, b, h => by cases b <;> simp [PV.same] at h
theorem sameL_eq : ∀ (a b : List PV), PV.sameL a b = true → a = b
  | [], [], _ => rfl
  | x :: r, y :: s, h => by
    simp only [PV.sameL, Bool.and_eq_true] at h
    rw [same_eq x y h.1, sameL_eq r s h.2]
  | [], _ :: _, h => by simp [PV.sameL] at h
  | _ :: _, [], h => by simp [PV.sameL] at h
end

/-- What the second look has found. -/
theorem stable_spec {o : PPO} {d : Nat} (hd : o.dst = some d) (hR : (o.op.bare || o.op.reads || o.op.slot.isSome) = true) (hs : stable E callE yieldE F o = true)
    (hp : ∀ s k, o.op.slot = some s → guardE F.tmps o.guard = some true → (∃ ob, hget F.heap (F.nm s) = some ob ∧ ob.gen = k) → (∃ ev ob, layE ev (F.nm s) o.op k = some (F.tmps.getD d .junk, ob)) → c.obj (F.nm s) = none ∧ c0.gen (F.nm s) < c.gen (F.nm s)) : Stable E c0 c F o d := by
  unfold stable at hs
  rw [hd] at hs
  simp only at hs
  split at hs
  · cases hs
  · rename_i hg
    exact .off hg (same_eq _ _ hs)
  · rename_i hg
    split at hs
    · rename_i s hsl
      split at hs
      · rename_i el k cl sz hob
        split at hs
        · rename_i v el' k' cl' sz' hl
          simp only [Bool.and_eq_true, beq_iff_eq] at hs
          obtain ⟨⟨⟨h1, h2⟩, h3⟩, h4⟩ := hs
          have e1 := same_eq _ _ h1
          have e2 := sameL_eq _ _ h2
          subst h3 h4 e2
          have hk := (layE_ob hl).2
          simp only [Ob.gen] at hk
          subst hk
          obtain ⟨q1, q2⟩ := hp s k' hsl hg ⟨_, hob, rfl⟩ ⟨_, _, by rw [e1]; exact hl⟩
          exact .lay hg s _ v hsl hob hl e1 q1 q2
        · cases hs
      · rename_i k hob
        split at hs
        · rename_i v k' hl
          have e1 := same_eq _ _ hs
          have hk := (layE_ob hl).2
          simp only [Ob.gen] at hk
          subst hk
          obtain ⟨q1, q2⟩ := hp s k' hsl hg ⟨_, hob, rfl⟩ ⟨_, _, by rw [e1]; exact hl⟩
          exact .lay hg s _ v hsl hob hl e1 q1 q2
        · cases hs
      · cases hs
    · rename_i hsl
      split at hs
      case h_2 => cases hs
      rename_i fr' hst
      have e1 := same_eq _ _ hs
      have hput : ∃ v, fr' = F.put (some d) v := by
        by_cases hb : o.op.bare = true
        · obtain ⟨v, h1, _⟩ := bare_same hb hst; exact ⟨v, h1⟩
        · have hr : o.op.reads = true := by simpa [hsl, hb] using hR
          obtain ⟨v, h1, _⟩ := reads_same hr hst; exact ⟨v, h1⟩
      obtain ⟨v, rfl⟩ := hput
      rw [put_getD] at e1
      by_cases hlt : d < F.tmps.length
      · rw [if_pos ⟨rfl, hlt⟩] at e1
        exact .op hg hsl v callE yieldE hst e1
      · have hj : F.tmps.getD d .junk = .junk := by simp [List.getD, List.getElem?_eq_none (Nat.le_of_not_lt hlt)]
        refine .op hg hsl .junk callE yieldE ?_ hj
        rw [hst]
        show some ({ F with tmps := F.tmps.set d v } : Fr) = some { F with tmps := F.tmps.set d .junk }
        rw [List.set_eq_of_length_le (by omega), List.set_eq_of_length_le (by omega)]

end Go.VI
