/- More of what an operation depends on. -/
import Derived.Test.YteodaifeknghaaaVi21
namespace Go.VI
variable {E : Env} {fr fr1 fr2 : Fr} {dst : Option Nat} {callE callE2 : CallE} {yieldE yieldE2 : Nm → List PV → Heap → Option (PV × Heap)}

theorem lay_same {p : POp} {s : Nat} {t t' : List PV} {nm : Nm} {k : Nat} (hp : p.slot = some s) (h : Same p.uses t t') : layE (evX E t') nm p k = layE (evX E t) nm p k := by
  cases p <;> simp only [POp.slot, reduceCtorEq] at hp <;> simp only [layE]
  case box s' x => rw [Same.x (x := x) h]
  case bslm s' cl sz z ps => rw [fillElems_eq ps z h]
  case mkslice s' cl bytes z l c => rw [Same.x (x := l) h.l, Same.x (x := c) h.r]

/-- Operations that may stand at a fixed place among the others. -/
def POp.fixed : POp → Bool
  | .store _ _ _ | .mupd _ _ _ _ | .append _ _ _ _ _ _ | .call _ _ => true
  | p => p.bare || p.reads

theorem lay_tmps {s : Nat} {f : Nat → Option (PV × Ob)} (hs : fr.lay dst s f = some fr1) : ∃ v h1, fr1 = ({ fr with heap := h1 } : Fr).put dst v ∧ ∀ t2, ({ fr with tmps := t2 } : Fr).lay dst s f = some (({ fr with heap := h1, tmps := t2 } : Fr).put dst v) := by
  unfold Fr.lay at hs
  split at hs
  case isFalse => cases hs
  rename_i hlen
  split at hs <;> simp only [Option.some.injEq, reduceCtorEq] at hs
  rename_i v ob hf
  refine ⟨v, _, hs.symm, fun t2 => ?_⟩
  have hf' : f (nextGen ({ fr with tmps := t2 } : Fr).heap (({ fr with tmps := t2 } : Fr).nm s)) = some (v, ob) := hf
  unfold Fr.lay
  rw [if_pos (by exact hlen), hf']
  rfl

theorem fixed_same {p : POp} (hp : p.fixed = true) (hs : stepOp E callE yieldE dst p fr = some fr1) : ∃ v h1, fr1 = ({ fr with heap := h1 } : Fr).put dst v ∧ ∀ t2, Same p.uses fr.tmps t2 → stepOp E callE yieldE dst p { fr with tmps := t2 } = some (({ fr with heap := h1, tmps := t2 } : Fr).put dst v) := by
  by_cases hb : p.bare = true
  · obtain ⟨v, h1, h2⟩ := bare_same hb hs
    exact ⟨v, fr.heap, h1, fun t2 ht => h2 { fr with tmps := t2 } callE yieldE ht⟩
  by_cases hr : p.reads = true
  · obtain ⟨v, h1, h2⟩ := reads_same hr hs
    exact ⟨v, fr.heap, h1, fun t2 ht => h2 { fr with tmps := t2 } callE yieldE ht (HLe.refl _)⟩
  cases p <;> simp only [POp.fixed, POp.bare, POp.reads, Bool.or_false, reduceCtorEq, not_true_eq_false] at hp hb hr <;> simp only [stepOp] at hs ⊢
  case store k x y =>
    split at hs
    case h_2 => cases hs
    rename_i n g i off e
    split at hs
    case h_2 => cases hs
    rename_i el g' cl sz hob
    split at hs
    case isFalse => cases hs
    rename_i hc
    split at hs
    · rename_i cs he
      split at hs <;> simp only [Option.some.injEq, reduceCtorEq] at hs
      rename_i hc2
      refine ⟨_, _, hs.symm, fun t2 h => ?_⟩
      simp only [Same.x (E := E) (x := x) h.l, Same.x (E := E) (x := y) h.r, e, hob, if_pos hc, he, if_pos hc2]
    · rename_i e' hna he
      split at hs <;> simp only [Option.some.injEq, reduceCtorEq] at hs
      rename_i hc2
      refine ⟨_, _, hs.symm, fun t2 h => ?_⟩
      simp only [Same.x (E := E) (x := x) h.l, Same.x (E := E) (x := y) h.r, e, hob, if_pos hc, he, if_pos hc2]
    · cases hs
  case mupd str m k x =>
    split at hs
    case isFalse => cases hs
    rename_i hc
    split at hs
    case h_2 => cases hs
    rename_i n g e
    split at hs
    case h_2 => cases hs
    rename_i es cc g' hob
    split at hs
    case isFalse => cases hs
    rename_i hc2
    split at hs <;> simp only [Option.some.injEq, reduceCtorEq] at hs
    rename_i r hr2
    refine ⟨_, _, hs.symm, fun t2 h => ?_⟩
    simp only [Same.x (E := E) (x := m) h.l.l, Same.x (E := E) (x := k) h.l.r, Same.x (E := E) (x := x) h.r, e, hob, if_pos hc, if_pos hc2, hr2]
  case append s cl sz bytes x y =>
    split at hs
    case h_1 => cases hs
    rename_i ys hys
    split at hs
    · cases hs
    rename_i hc0
    split at hs
    · rename_i f L e
      split at hs
      case isFalse => cases hs
      rename_i hc
      obtain ⟨v, h1, h2, h3⟩ := lay_tmps hs
      refine ⟨v, h1, h2, fun t2 h => ?_⟩
      simp only [Same.x (E := E) (x := x) h.l, Same.x (E := E) (x := y) h.r, hys, if_neg hc0, e, if_pos hc]
      exact h3 t2
    · rename_i n g off len e
      split at hs
      case h_2 => cases hs
      rename_i el g' cl' sz' hob
      split at hs
      case isFalse => cases hs
      rename_i hc
      split at hs
      · rename_i hc2
        simp only [Option.some.injEq] at hs
        refine ⟨_, _, hs.symm, fun t2 h => ?_⟩
        simp only [Same.x (E := E) (x := x) h.l, Same.x (E := E) (x := y) h.r, hys, if_neg hc0, e, hob, if_pos hc, if_pos hc2]
      · rename_i hc2
        split at hs <;> simp only [Option.some.injEq, reduceCtorEq] at hs
        rename_i hc3
        refine ⟨_, _, hs.symm, fun t2 h => ?_⟩
        simp only [Same.x (E := E) (x := x) h.l, Same.x (E := E) (x := y) h.r, hys, if_neg hc0, e, hob, if_pos hc, if_neg hc2, if_pos hc3]
    · cases hs
  case call f args =>
    split at hs <;> simp only [Option.some.injEq, reduceCtorEq] at hs
    rename_i v h hc
    refine ⟨_, _, hs.symm, fun t2 h => ?_⟩
    simp only [Same.x (E := E) (x := f) h.l, Same.xs (E := E) h.r, hc]
  all_goals simp_all

end Go.VI
