/- Operations whose place among the others does not matter: what they say depends on what they read alone. -/
import Derived.Test.YteodaifeknghaaaVi20
namespace Go.VI
variable {E : Env} {fr fr1 fr2 : Fr} {dst : Option Nat} {callE callE2 : CallE} {yieldE yieldE2 : Nm → List PV → Heap → Option (PV × Heap)}

def PX.use : PX → List Nat
  | .t i => [i]
  | _ => []
def usesL (l : List PX) : List Nat := l.flatMap PX.use
def usesO (o : Option PX) : List Nat := match o with | some x => x.use | none => []

def POp.uses : POp → List Nat
  | .mov x | .frz x | .box _ x | .boxi x | .load _ x | .nilc x | .neg x | .compl x | .notb x | .conv _ x | .convs x | .faddr _ x | .fld _ _ x | .extract x _ | .lens x | .lenl x | .lenm x | .eqnil _ _ x | .capl x => x.use
  | .vec _ _ _ | .alloc _ _ | .mkmap _ | .stop => []
  | .pick c a b => c.use ++ a.use ++ b.use
  | .build _ ps => ps.flatMap fun p => p.2.2.use
  | .bsl _ ps => ps.flatMap fun p => p.2.use
  | .bslm _ _ _ _ ps => ps.flatMap fun p => p.2.use
  | .store _ x y | .bini _ x y | .bins _ x y | .eq _ _ x y | .iaddr _ x y | .iaddra _ _ x y | .idx _ _ _ x y | .idxs x y | .lookup _ _ _ x y | .mentry _ x y | .append _ _ _ _ x y | .copy x y | .delete x y => x.use ++ y.use
  | .mkfn _ a b => usesL a ++ usesL b
  | .mkslice _ _ _ _ x y => x.use ++ y.use
  | .sls x lo hi => x.use ++ usesO lo ++ usesO hi
  | .slc _ x lo hi m => x.use ++ usesO lo ++ usesO hi ++ usesO m
  | .mupd _ m k x | .estore m k x => m.use ++ k.use ++ x.use
  | .call f args => f.use ++ usesL args
  | .calla _ _ f args => f.use ++ usesL args
  | .defer f args => f.use ++ usesL args
  | .mx x r | .mn x r => x.use ++ usesL r

def PPO.uses (o : PPO) : List Nat := o.op.uses ++ (match o.guard with | some (t, _) => [t] | none => [])

/-- The same temporaries where it matters. -/
def Same (l : List Nat) (t t' : List PV) : Prop := ∀ i ∈ l, t'.getD i .junk = t.getD i .junk

theorem Same.l {l l' : List Nat} {t t' : List PV} (h : Same (l ++ l') t t') : Same l t t' := fun i hi => h i (List.mem_append_left _ hi)
theorem Same.r {l l' : List Nat} {t t' : List PV} (h : Same (l ++ l') t t') : Same l' t t' := fun i hi => h i (List.mem_append_right _ hi)

theorem Same.x {x : PX} {t t' : List PV} (h : Same x.use t t') : evX E t' x = evX E t x := by
  cases x with
  | t i => exact h i (by simp [PX.use])
  | c v => rfl
  | g i => rfl

theorem Same.xs {xs : List PX} {t t' : List PV} (h : Same (usesL xs) t t') : xs.map (evX E t') = xs.map (evX E t) := by
  apply List.map_congr_left
  intro x hx
  exact Same.x fun i hi => h i (List.mem_flatMap.2 ⟨x, hx, hi⟩)

theorem boundsE_eq {len cap : Nat} {lo hi mx : Option PX} {t t' : List PV} (h1 : Same (usesO lo) t t') (h2 : Same (usesO hi) t t') (h3 : Same (usesO mx) t t') : boundsE E t' len cap lo hi mx = boundsE E t len cap lo hi mx := by
  unfold boundsE
  cases mx with
  | none =>
    cases hi with
    | none =>
      cases lo with
      | none => rfl
      | some z => simp only [Same.x (x := z) (E := E) h1]
    | some y =>
      cases lo with
      | none => simp only [Same.x (x := y) (E := E) h2]
      | some z => simp only [Same.x (x := y) (E := E) h2, Same.x (x := z) (E := E) h1]
  | some x =>
    cases hi with
    | none =>
      cases lo with
      | none => simp only [Same.x (x := x) (E := E) h3]
      | some z => simp only [Same.x (x := x) (E := E) h3, Same.x (x := z) (E := E) h1]
    | some y =>
      cases lo with
      | none => simp only [Same.x (x := x) (E := E) h3, Same.x (x := y) (E := E) h2]
      | some z => simp only [Same.x (x := x) (E := E) h3, Same.x (x := y) (E := E) h2, Same.x (x := z) (E := E) h1]

theorem fillParts_eq {t t' : List PV} : ∀ (ps : List (Nat × Nat × PX)) (cs : List PV), Same (ps.flatMap fun p => p.2.2.use) t t' → fillParts (evX E t') cs ps = fillParts (evX E t) cs ps
  | [], _, _ => rfl
  | (off, n, x) :: r, cs, h => by
    simp only [List.flatMap_cons] at h
    simp only [fillParts, Same.x (E := E) h.l]
    split
    · exact fillParts_eq r _ h.r
    · rfl

theorem fillElems_eq {t t' : List PV} : ∀ (ps : List (Nat × PX)) (cs : List PV), Same (ps.flatMap fun p => p.2.use) t t' → fillElems (evX E t') cs ps = fillElems (evX E t) cs ps
  | [], _, _ => rfl
  | (i, x) :: r, cs, h => by
    simp only [List.flatMap_cons] at h
    simp only [fillElems, Same.x (E := E) h.l]
    split
    · split
      · exact fillElems_eq r _ h.r
      · rfl
    · rfl

/-- Objects that are there stay, but for those that were left behind. -/
def HLe (h h' : Heap) : Prop := ∀ n ob, hget h n = some ob → (∀ g, ob ≠ .dead g) → hget h' n = some ob

theorem HLe.refl (h : Heap) : HLe h h := fun _ _ h _ => h
theorem HLe.trans {h h' h'' : Heap} (a : HLe h h') (b : HLe h' h'') : HLe h h'' := fun n ob h1 h2 => b n ob (a n ob h1 h2) h2
theorem HLe.mem {h h' : Heap} (a : HLe h h') {n : Nm} {el : List PV} {g sz : Nat} {cl : Bool} (hg : hget h n = some (.mem el g cl sz)) : hget h' n = some (.mem el g cl sz) := a n _ hg (by simp)
theorem HLe.map {h h' : Heap} (a : HLe h h') {n : Nm} {es : List (PV × PV)} {c g : Nat} (hg : hget h n = some (.map es c g)) : hget h' n = some (.map es c g) := a n _ hg (by simp)

/-- Operations that read nothing but their operands. -/
def POp.bare : POp → Bool
  | .mov _ | .boxi _ | .pick _ _ _ | .build _ _ | .bsl _ _ | .bini _ _ _ | .bins _ _ _ | .eq _ _ _ _ | .neg _ | .compl _ | .notb _ | .conv _ _ | .convs _ | .mkfn _ _ _ | .sls _ _ _ | .fld _ _ _ | .idx _ _ _ _ _ | .idxs _ _ | .extract _ _ | .lens _ | .mx _ _ | .mn _ _ | .eqnil _ _ _ | .capl _ => true
  | _ => false
/-- .. and those that read memory as well. -/
def POp.reads : POp → Bool
  | .load _ _ | .nilc _ | .slc _ _ _ _ _ | .faddr _ _ | .iaddr _ _ _ | .iaddra _ _ _ _ | .lookup _ _ _ _ _ | .lenl _ | .lenm _ => true
  | _ => false

theorem bare_same {p : POp} (hp : p.bare = true) (hs : stepOp E callE yieldE dst p fr = some fr1) : ∃ v, fr1 = fr.put dst v ∧ ∀ fr2 callE2 yieldE2, Same p.uses fr.tmps fr2.tmps → stepOp E callE2 yieldE2 dst p fr2 = some (fr2.put dst v) := by
  cases p <;> simp only [POp.bare, reduceCtorEq] at hp <;> simp only [stepOp] at hs ⊢
  case mov x => simp only [Option.some.injEq] at hs; exact ⟨_, hs.symm, fun fr2 _ _ h => by rw [Same.x h]⟩
  case boxi x =>
    split at hs <;> simp only [Option.some.injEq, reduceCtorEq] at hs
    rename_i hc
    exact ⟨_, hs.symm, fun fr2 _ _ h => by rw [Same.x h, if_pos hc]⟩
  case pick c a b =>
    split at hs <;> simp only [Option.some.injEq, reduceCtorEq] at hs
    rename_i t e
    refine ⟨_, hs.symm, fun fr2 _ _ h => ?_⟩
    rw [Same.x (x := c) h.l.l, Same.x (x := a) h.l.r, Same.x (x := b) h.r, e]
  case build z ps =>
    split at hs <;> simp only [Option.some.injEq, reduceCtorEq] at hs
    rename_i cs e
    refine ⟨_, hs.symm, fun fr2 _ _ h => ?_⟩
    rw [fillParts_eq ps z h, e]
  case bsl z ps =>
    split at hs
    case h_2 => cases hs
    rename_i cs e
    split at hs <;> simp only [Option.some.injEq, reduceCtorEq] at hs
    rename_i hc
    refine ⟨_, hs.symm, fun fr2 _ _ h => ?_⟩
    rw [fillElems_eq ps z h, e]
    simp only [hc, if_true]
  case bini op x y =>
    split at hs <;> simp only [Option.some.injEq, reduceCtorEq] at hs
    rename_i v e
    refine ⟨_, hs.symm, fun fr2 _ _ h => ?_⟩
    rw [Same.x (x := x) h.l, Same.x (x := y) h.r, e]
  case bins op x y =>
    split at hs <;> simp only [Option.some.injEq, reduceCtorEq] at hs
    rename_i v e
    refine ⟨_, hs.symm, fun fr2 _ _ h => ?_⟩
    rw [Same.x (x := x) h.l, Same.x (x := y) h.r, e]
  case eq neg sh x y =>
    split at hs <;> simp only [Option.some.injEq, reduceCtorEq] at hs
    rename_i v e
    refine ⟨_, hs.symm, fun fr2 _ _ h => ?_⟩
    rw [Same.x (x := x) h.l, Same.x (x := y) h.r, e]
  case neg x =>
    split at hs <;> simp only [Option.some.injEq, reduceCtorEq] at hs
    rename_i k n e
    exact ⟨_, hs.symm, fun fr2 _ _ h => by rw [Same.x h, e]⟩
  case compl x =>
    split at hs <;> simp only [Option.some.injEq, reduceCtorEq] at hs
    rename_i k n e
    exact ⟨_, hs.symm, fun fr2 _ _ h => by rw [Same.x h, e]⟩
  case notb x =>
    split at hs <;> simp only [Option.some.injEq, reduceCtorEq] at hs
    rename_i e
    exact ⟨_, hs.symm, fun fr2 _ _ h => by rw [Same.x h, e]⟩
  case conv k x =>
    split at hs <;> simp only [Option.some.injEq, reduceCtorEq] at hs
    rename_i e
    exact ⟨_, hs.symm, fun fr2 _ _ h => by rw [Same.x h, e]⟩
  case convs x =>
    split at hs <;> simp only [Option.some.injEq, reduceCtorEq] at hs
    rename_i e
    exact ⟨_, hs.symm, fun fr2 _ _ h => by rw [Same.x h, e]⟩
  case mkfn f a b =>
    simp only [Option.some.injEq] at hs
    exact ⟨_, hs.symm, fun fr2 _ _ h => by rw [Same.xs h.l, Same.xs h.r]⟩
  case sls x lo hi =>
    split at hs
    case h_2 => cases hs
    rename_i s e
    split at hs <;> simp only [Option.some.injEq, reduceCtorEq] at hs
    rename_i l hh m hb
    refine ⟨_, hs.symm, fun fr2 _ _ h => ?_⟩
    rw [Same.x (x := x) h.l.l, e]
    simp only
    rw [boundsE_eq h.l.r h.r (fun i hi => by simp [usesO] at hi), hb]
  case fld off k x =>
    split at hs
    case h_2 => cases hs
    rename_i cs e
    split at hs <;> simp only [Option.some.injEq, reduceCtorEq] at hs
    rename_i v hv
    refine ⟨_, hs.symm, fun fr2 _ _ h => ?_⟩
    rw [Same.x h, e]
    simp only [hv]
  case idx n sz k x i =>
    split at hs
    case h_2 => cases hs
    rename_i kk j e
    split at hs
    case isFalse => cases hs
    rename_i hc
    split at hs
    case h_2 => cases hs
    rename_i cs e2
    split at hs
    case isFalse => cases hs
    rename_i hc2
    split at hs <;> simp only [Option.some.injEq, reduceCtorEq] at hs
    rename_i v hv
    refine ⟨_, hs.symm, fun fr2 _ _ h => ?_⟩
    rw [Same.x (x := x) h.l, Same.x (x := i) h.r, e]
    simp only [if_pos hc, e2, if_pos hc2, hv]
  case idxs x i =>
    split at hs
    case h_2 => cases hs
    rename_i kk j s e e2
    split at hs
    case isFalse => cases hs
    rename_i hc
    split at hs <;> simp only [Option.some.injEq, reduceCtorEq] at hs
    rename_i v hv
    refine ⟨_, hs.symm, fun fr2 _ _ h => ?_⟩
    rw [Same.x (x := x) h.l, Same.x (x := i) h.r, e, e2]
    simp only [if_pos hc, hv]
  case extract x i =>
    split at hs
    case h_2 => cases hs
    rename_i vs e
    split at hs <;> simp only [Option.some.injEq, reduceCtorEq] at hs
    rename_i v hv
    refine ⟨_, hs.symm, fun fr2 _ _ h => ?_⟩
    rw [Same.x h, e]
    simp only [hv]
  case lens x =>
    split at hs <;> simp only [Option.some.injEq, reduceCtorEq] at hs
    rename_i e
    exact ⟨_, hs.symm, fun fr2 _ _ h => by rw [Same.x h, e]⟩
  case mx x r =>
    split at hs <;> simp only [Option.some.injEq, reduceCtorEq] at hs
    rename_i v e
    refine ⟨_, hs.symm, fun fr2 _ _ h => ?_⟩
    rw [Same.x (x := x) h.l, Same.xs h.r, e]
  case mn x r =>
    split at hs <;> simp only [Option.some.injEq, reduceCtorEq] at hs
    rename_i v e
    refine ⟨_, hs.symm, fun fr2 _ _ h => ?_⟩
    rw [Same.x (x := x) h.l, Same.xs h.r, e]
  case eqnil k neg x =>
    split at hs <;> simp only [Option.some.injEq, reduceCtorEq] at hs
    rename_i b e
    refine ⟨_, hs.symm, fun fr2 _ _ h => ?_⟩
    rw [Same.x h, e]
  case capl x =>
    split at hs
    case h_2 => cases hs
    rename_i f L e
    split at hs <;> simp only [Option.some.injEq, reduceCtorEq] at hs
    rename_i hc
    refine ⟨_, hs.symm, fun fr2 _ _ h => ?_⟩
    rw [Same.x h, e]
    simp only [hc, if_true]

theorem reads_same {p : POp} (hp : p.reads = true) (hs : stepOp E callE yieldE dst p fr = some fr1) : ∃ v, fr1 = fr.put dst v ∧ ∀ fr2 callE2 yieldE2, Same p.uses fr.tmps fr2.tmps → HLe fr.heap fr2.heap → stepOp E callE2 yieldE2 dst p fr2 = some (fr2.put dst v) := by
  cases p <;> simp only [POp.reads, reduceCtorEq] at hp <;> simp only [stepOp] at hs ⊢
  case load k x =>
    split at hs
    · rename_i cs e
      split at hs <;> simp only [Option.some.injEq, reduceCtorEq] at hs
      rename_i v hv
      refine ⟨_, hs.symm, fun fr2 _ _ h hh => ?_⟩
      rw [Same.x h, e]
      simp only [hv]
    · rename_i n g i off e
      split at hs
      case h_2 => cases hs
      rename_i el g' cl sz hob
      split at hs
      case isFalse => cases hs
      rename_i hc
      split at hs
      case h_2 => cases hs
      rename_i e' he'
      split at hs <;> simp only [Option.some.injEq, reduceCtorEq] at hs
      rename_i v hv
      refine ⟨_, hs.symm, fun fr2 _ _ h hh => ?_⟩
      rw [Same.x h, e]
      simp only [hh.mem hob, if_pos hc, he', hv]
    · cases hs
  case nilc x =>
    split at hs
    · rename_i cs e
      simp only [Option.some.injEq] at hs
      refine ⟨_, hs.symm, fun fr2 _ _ h hh => ?_⟩
      rw [Same.x h, e]
    · rename_i n g i off e
      split at hs
      case h_2 => cases hs
      rename_i el g' cl sz hob
      split at hs <;> simp only [Option.some.injEq, reduceCtorEq] at hs
      rename_i hc
      refine ⟨_, hs.symm, fun fr2 _ _ h hh => ?_⟩
      rw [Same.x h, e]
      simp only [hh.mem hob, if_pos hc]
    · cases hs
  case slc sz x lo hi mx =>
    split at hs
    · rename_i f L e
      split at hs
      case h_2 => cases hs
      rename_i l hh m hb
      split at hs <;> simp only [Option.some.injEq, reduceCtorEq] at hs
      rename_i hc
      refine ⟨_, hs.symm, fun fr2 _ _ h _ => ?_⟩
      rw [Same.x (x := x) h.l.l.l, e]
      simp only
      rw [boundsE_eq h.l.l.r h.l.r h.r, hb]
      simp only [hc, if_false, Bool.false_eq_true]
    · rename_i n g off len e
      split at hs
      case h_2 => cases hs
      rename_i el g' cl osz hob
      split at hs
      case isFalse => cases hs
      rename_i hc
      split at hs <;> simp only [Option.some.injEq, reduceCtorEq] at hs
      rename_i l hh m hb
      refine ⟨_, hs.symm, fun fr2 _ _ h hle => ?_⟩
      rw [Same.x (x := x) h.l.l.l, e]
      simp only [hle.mem hob]
      rw [if_pos hc, boundsE_eq h.l.l.r h.l.r (fun i hi => by simp [usesO] at hi), hb]
    · cases hs
  case faddr off x =>
    split at hs
    · rename_i cs e
      split at hs <;> simp only [Option.some.injEq, reduceCtorEq] at hs
      rename_i hc
      refine ⟨_, hs.symm, fun fr2 _ _ h hh => ?_⟩
      rw [Same.x h, e]
      simp only [if_pos hc]
    · rename_i n g i o e
      split at hs
      case h_2 => cases hs
      rename_i el g' cl sz hob
      split at hs <;> simp only [Option.some.injEq, reduceCtorEq] at hs
      rename_i hc
      refine ⟨_, hs.symm, fun fr2 _ _ h hh => ?_⟩
      rw [Same.x h, e]
      simp only [hh.mem hob, if_pos hc]
    · cases hs
  case iaddr sz x i =>
    split at hs
    case h_2 => cases hs
    rename_i kk j e
    split at hs
    case isFalse => cases hs
    rename_i hj
    split at hs
    · rename_i f L e2
      split at hs
      case h_2 => cases hs
      rename_i e' he'
      split at hs <;> simp only [Option.some.injEq, reduceCtorEq] at hs
      rename_i hc
      refine ⟨_, hs.symm, fun fr2 _ _ h hh => ?_⟩
      rw [Same.x (x := x) h.l, Same.x (x := i) h.r, e]
      simp only [if_pos hj, e2, he', if_pos hc]
    · rename_i n g off len e2
      split at hs
      case h_2 => cases hs
      rename_i el g' cl osz hob
      split at hs
      case isFalse => cases hs
      rename_i hc
      split at hs
      case h_2 => cases hs
      rename_i e' he'
      split at hs <;> simp only [Option.some.injEq, reduceCtorEq] at hs
      rename_i hc2
      refine ⟨_, hs.symm, fun fr2 _ _ h hh => ?_⟩
      rw [Same.x (x := x) h.l, Same.x (x := i) h.r, e]
      simp only [if_pos hj, e2, hh.mem hob, if_pos hc, he', if_pos hc2]
    · cases hs
  case iaddra n sz x i =>
    split at hs
    case h_2 => cases hs
    rename_i kk j e
    split at hs
    case isFalse => cases hs
    rename_i hj
    split at hs
    · rename_i cs e2
      split at hs <;> simp only [Option.some.injEq, reduceCtorEq] at hs
      rename_i hc
      refine ⟨_, hs.symm, fun fr2 _ _ h hh => ?_⟩
      rw [Same.x (x := x) h.l, Same.x (x := i) h.r, e]
      simp only [if_pos hj, e2, if_pos hc]
    · rename_i nm g ei off e2
      split at hs
      case h_2 => cases hs
      rename_i el g' cl osz hob
      split at hs <;> simp only [Option.some.injEq, reduceCtorEq] at hs
      rename_i hc
      refine ⟨_, hs.symm, fun fr2 _ _ h hh => ?_⟩
      rw [Same.x (x := x) h.l, Same.x (x := i) h.r, e]
      simp only [if_pos hj, e2, hh.mem hob, if_pos hc]
    · cases hs
  case lookup str z ok m k =>
    split at hs
    · cases hs
    rename_i hki
    split at hs
    case h_2 => cases hs
    rename_i es hes
    split at hs <;> simp only [Option.some.injEq, reduceCtorEq] at hs
    rename_i r hr
    refine ⟨_, hs.symm, fun fr2 _ _ h hh => ?_⟩
    rw [Same.x (x := m) h.l, Same.x (x := k) h.r, if_neg hki]
    split at hes
    · rename_i e
      simp only [Option.some.injEq] at hes
      subst hes
      simp only [hr]
    · rename_i n g e
      split at hes
      case h_2 => cases hes
      rename_i es' cc g' hob
      split at hes <;> simp only [Option.some.injEq, reduceCtorEq] at hes
      rename_i hc
      subst hes
      simp only [hh.map hob, if_pos hc, hr]
    · cases hes
  case lenl x =>
    split at hs <;> simp only [Option.some.injEq, reduceCtorEq] at hs
    rename_i k hk
    refine ⟨_, hs.symm, fun fr2 _ _ h hh => ?_⟩
    rw [Same.x h]
    have : lenOf fr2.heap (evX E fr.tmps x) = some k := by
      generalize evX E fr.tmps x = v at hk
      cases v with
      | vs f L => exact hk
      | sl n g off len =>
        simp only [lenOf] at hk ⊢
        split at hk
        case h_2 => cases hk
        rename_i hob
        split at hk <;> simp only [Option.some.injEq, reduceCtorEq] at hk
        rename_i hc
        simp only [hh.mem hob, if_pos hc, hk]
      | _ => simp [lenOf] at hk
    rw [this]
  case lenm x =>
    split at hs
    · rename_i e
      simp only [Option.some.injEq] at hs
      exact ⟨_, hs.symm, fun fr2 _ _ h hh => by rw [Same.x h, e]⟩
    · rename_i n g e
      split at hs
      case h_2 => cases hs
      rename_i es cc g' hob
      split at hs <;> simp only [Option.some.injEq, reduceCtorEq] at hs
      rename_i hc
      refine ⟨_, hs.symm, fun fr2 _ _ h hh => ?_⟩
      rw [Same.x h, e]
      simp only [hh.map hob, if_pos hc]
    · cases hs

end Go.VI
