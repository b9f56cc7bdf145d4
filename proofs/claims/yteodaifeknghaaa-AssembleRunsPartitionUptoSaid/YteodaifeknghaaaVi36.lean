/- More fuel says the same. -/
import Derived.Test.YteodaifeknghaaaVi35
namespace Go.VI
variable {E : Env}

def CallLe (c c' : CallE) : Prop := ∀ f args h r, c f args h = some r → c' f args h = some r
def YieldLe (y y' : Nm → List PV → Heap → Option (PV × Heap)) : Prop := ∀ n args h r, y n args h = some r → y' n args h = some r

theorem doCall_mono {c c' : CallE} (hc : CallLe c c') : CallLe (doCall E c) (doCall E c') := by
  intro f args h r he
  unfold doCall at he
  rw [doCall]
  split at he
  · cases he
  rename_i pf hpf
  split at he
  · rename_i hp
    split at he
    · rename_i hl
      split at he
      case h_2 => cases he
      rename_i v h' hv
      simp only [hp, if_true, hl, hc _ _ _ _ hv]
      exact he
    · rename_i hl
      split at he
      · cases he
      rename_i args' ha
      split at he
      case h_2 => cases he
      rename_i v h' hv
      simp only [hp, if_true, if_neg hl, hc _ _ _ _ hv]
      exact he
  · rename_i hp
    split at he
    case h_2 => cases he
    rename_i v h' hv
    simp only [if_neg hp, hc _ _ _ _ hv]
    exact he

variable {c c' : CallE} {y y' : Nm → List PV → Heap → Option (PV × Heap)}

theorem callV_mono (hc : CallLe c c') (hy : YieldLe y y') {f : PV} {args : List PV} {h : Heap} {r : PV × Heap} (he : callV E c y f args h = some r) : callV E c' y' f args h = some r := by
  unfold callV at he ⊢
  split at he
  · exact doCall_mono hc _ _ _ _ he
  · split at he
    · split at he
      · rename_i hg
        rw [if_pos hg]
        exact hy _ _ _ _ he
      · cases he
    · cases he
  · cases he

theorem stepOp_mono (hc : CallLe c c') (hy : YieldLe y y') {dst : Option Nat} {o : POp} {fr fr' : Fr} (h : stepOp E c y dst o fr = some fr') : stepOp E c' y' dst o fr = some fr' := by
  by_cases h1 : ∃ f args, o = .call f args
  · obtain ⟨f, args, rfl⟩ := h1
    simp only [stepOp] at h ⊢
    split at h
    case h_2 => cases h
    rename_i v h' hv
    rw [callV_mono hc hy hv]
    exact h
  · by_cases h2 : ∃ s cl f args, o = .calla s cl f args
    · obtain ⟨s, cl, f, args, rfl⟩ := h2
      simp only [stepOp] at h ⊢
      split at h
      case h_2 => cases h
      split at h
      case h_2 => cases h
      split at h
      case isFalse => cases h
      rename_i hp
      rw [if_pos hp]
      split at h
      case h_2 => cases h
      rename_i hcc
      rw [hc _ _ _ _ hcc]
      exact h
    · exact (stepOp_nc (fun f args e => h1 ⟨f, args, e⟩) (fun s cl f args e => h2 ⟨s, cl, f, args, e⟩)).trans h

theorem stepPO_mono (hc : CallLe c c') (hy : YieldLe y y') {o : PPO} {fr fr' : Fr} (h : stepPO E c y o fr = some fr') : stepPO E c' y' o fr = some fr' := by
  unfold stepPO at h ⊢
  split at h
  · cases h
  · exact h
  · exact stepOp_mono hc hy h

theorem runOps_mono (hc : CallLe c c') (hy : YieldLe y y') : ∀ {ops : List PPO} {fr fr' : Fr}, runOps E c y ops fr = some fr' → runOps E c' y' ops fr = some fr'
  | [], _, _, h => h
  | o :: r, fr, fr', h => by
    unfold runOps at h ⊢
    split at h
    case h_2 => cases h
    rename_i fr1 h1
    rw [stepPO_mono hc hy h1]
    exact runOps_mono hc hy h

theorem stable_mono (hc : CallLe c c') (hy : YieldLe y y') {o : PPO} {fr : Fr} (h : stable E c y fr o = true) : stable E c' y' fr o = true := by
  unfold stable at h ⊢
  split at h
  · cases h
  split at h
  · cases h
  · exact h
  · split at h
    · exact h
    · split at h
      case h_2 => cases h
      rename_i fr1 h1
      rw [stepOp_mono hc hy h1]
      exact h

theorem runD_mono (hc : CallLe c c') (hy : YieldLe y y') : ∀ {its past : List DPO} {fr fr' : Fr}, runD E c y past its fr = some fr' → runD E c' y' past its fr = some fr'
  | [], _, _, _, h => by simpa only [runD] using h
  | it :: r, past, fr, fr', h => by
    unfold runD at h ⊢
    split at h
    · rename_i hC
      rw [if_pos hC]
      split at h
      · cases h
      rename_i fr1 h1
      rw [stepPO_mono hc hy h1]
      split at h
      case isFalse => cases h
      rename_i hq
      have hq' : (quiet E it.o fr.tmps || past.all fun x => !it.chk.contains x.ix || stable E c' y' fr1 x.o) = true := by
        rw [Bool.or_eq_true] at hq ⊢
        refine hq.imp id fun h2 => ?_
        rw [List.all_eq_true] at h2 ⊢
        intro x hx
        have := h2 x hx
        rw [Bool.or_eq_true] at this ⊢
        exact this.imp id (stable_mono hc hy)
      simp only [hq', if_true]
      exact runD_mono hc hy h
    · rename_i hC
      rw [if_neg hC]
      split at h
      case isFalse => cases h
      rename_i hf
      rw [if_pos hf]
      split at h
      · cases h
      rename_i fr1 h1
      rw [stepPO_mono hc hy h1]
      exact runD_mono hc hy h

theorem fuel_mono : ∀ k, CallLe (callN E k) (callN E (k + 1)) ∧ CallLe (callD E k) (callD E (k + 1)) ∧ (∀ ds h r, defN E k ds h = some r → defN E (k + 1) ds h = some r) ∧ (∀ c fr r, evN E k c fr = some r → evN E (k + 1) c fr = some r) ∧ YieldLe (yieldN E k) (yieldN E (k + 1)) := by
  intro k
  induction k with
  | zero =>
    refine ⟨fun f args h r he => ?_, fun f args h r he => ?_, fun ds h r he => ?_, fun c fr r he => ?_, fun n args h r he => ?_⟩
    · simp [callN] at he
    · simp [callD] at he
    · simp [defN] at he
    · simp [evN] at he
    · simp [yieldN] at he
  | succ k ih =>
    obtain ⟨h1, h2, h3, h4, h5⟩ := ih
    refine ⟨fun f args h r he => ?_, fun f args h r he => ?_, fun ds h r he => ?_, fun c fr r he => ?_, fun n args h r he => ?_⟩
    · simp only [callN] at he
      rw [callN]
      split at he
      · cases he
      rename_i pf hpf
      split at he
      case isFalse => cases he
      rename_i hn
      simp only [hpf, hn, if_true]
      have key : ∀ (fr : Fr) (v : PV × Heap), (match defN E k fr.defers fr.heap with
          | some h' => (match resultsE h' fr.tmps pf.results with
            | some v => some (v, h')
            | none => none)
          | none => none) = some v → (match defN E (k + 1) fr.defers fr.heap with
          | some h' => (match resultsE h' fr.tmps pf.results with
            | some v => some (v, h')
            | none => none)
          | none => none) = some v := by
        intro fr v hv
        split at hv
        case h_2 => cases hv
        rename_i h' hdn
        rw [h3 _ _ _ hdn]
        exact hv
      split at he
      · rename_i fr hev
        rw [h4 _ _ _ hev]
        exact key fr r he
      · rename_i fr hev
        rw [h4 _ _ _ hev]
        exact key fr r he
      · cases he
    · simp only [callD] at he
      rw [callD]
      split at he
      · cases he
      rename_i pf hpf
      split at he
      case isFalse => cases he
      rename_i hn
      simp only [hpf, hn, if_true]
      split at he
      · rename_i fr hev
        rw [h4 _ _ _ hev]
        exact he
      · rename_i fr hev
        rw [h4 _ _ _ hev]
        exact he
      · cases he
    · cases ds with
      | nil => simpa only [defN] using he
      | cons d ds =>
        cases d with
        | none =>
          simp only [defN] at he ⊢
          exact h3 _ _ _ he
        | some d =>
          obtain ⟨f, args⟩ := d
          simp only [defN] at he
          rw [defN]
          split at he
          case h_2 => cases he
          rename_i v h' hv
          rw [doCall_mono h2 _ _ _ _ hv]
          exact h3 _ _ _ he
    · cases c with
      | skip => simpa only [evN] using he
      | exit id => simpa only [evN] using he
      | ret => simpa only [evN] using he
      | reg ops =>
        simp only [evN] at he
        rw [evN]
        split at he
        case h_2 => cases he
        rename_i fr1 hr
        simp only [runOps_mono h1 h5 hr]
        exact he
      | regd its gcL mxd =>
        simp only [evN] at he
        rw [evN]
        split at he
        case isFalse => cases he
        rename_i hl
        simp only [hl, if_true]
        split at he
        case h_2 => cases he
        rename_i fr1 hr
        simp only [runD_mono h1 h5 hr]
        exact he
      | seq a b =>
        simp only [evN] at he
        rw [evN]
        split at he
        · rename_i fr1 ha
          simp only [h4 _ _ _ ha]
          exact h4 _ _ _ he
        · rename_i hne
          have ha := h4 _ _ _ he
          simp only [ha]
          obtain ⟨ex, fr1⟩ := r
          cases ex with
          | norm => exact absurd he (hne _)
          | exit id => rfl
          | ret => rfl
      | cond c a b =>
        simp only [evN] at he
        rw [evN]
        split at he
        case h_2 => cases he
        exact h4 _ _ _ he
      | block id a =>
        simp only [evN] at he
        rw [evN]
        split at he
        · rename_i id' fr1 ha
          simp only [h4 _ _ _ ha]
          exact he
        · rename_i hne
          have ha := h4 _ _ _ he
          simp only [ha]
          obtain ⟨ex, fr1⟩ := r
          cases ex with
          | norm => rfl
          | exit id => exact absurd he (hne _ _)
          | ret => rfl
      | loop a =>
        simp only [evN] at he
        rw [evN]
        split at he
        · rename_i fr1 ha
          simp only [h4 _ _ _ ha]
          exact h4 _ _ _ he
        · rename_i hne
          have ha := h4 _ _ _ he
          simp only [ha]
          obtain ⟨ex, fr1⟩ := r
          cases ex with
          | norm => exact absurd he (hne _)
          | exit id => rfl
          | ret => rfl
      | cln m a =>
        simp only [evN] at he ⊢
        exact h4 _ _ _ he
      | rangef s f ps p q =>
        simp only [evN] at he
        rw [evN]
        split at he
        case isFalse => cases he
        rename_i hs
        simp only [hs, if_true]
        split at he
        case h_2 => cases he
        split at he
        case h_2 => cases he
        rename_i v h' hc
        simp only [doCall_mono h1 _ _ _ _ hc]
        exact he
    · simp only [yieldN] at he
      rw [yieldN]
      split at he
      case h_2 => cases he
      split at he
      case isFalse => cases he
      rename_i hl
      simp only [hl, if_true]
      split at he
      case h_2 => cases he
      rename_i fr1 ha
      simp only [h4 _ _ _ ha]
      split at he
      case h_2 => cases he
      split at he
      case isFalse => cases he
      rename_i hg
      simp only [hg, if_true]
      split at he
      case h_2 => cases he
      rename_i fr2 hb
      simp only [h4 _ _ _ hb]
      exact he

theorem callN_evt {k : Nat} {f : Nat} {args : List PV} {h : Heap} {r : PV × Heap} (hc : callN E k f args h = some r) : Evt fun k => callN E k f args h = some r := by
  refine ⟨k, fun j hj => ?_⟩
  induction hj with
  | refl => exact hc
  | step _ ih => exact (fuel_mono _).1 _ _ _ _ ih

/-- A call that was evaluated. -/
theorem callR_some {k : Nat} {f : Nat} {args : List PV} {h : Heap} {r : PV × Heap} (hc : callN E k f args h = some r) : callR E f args h = some r := callR_of (callN_evt hc)

/-- A closed call of a function that writes nothing. -/
theorem call_closed {k : Nat} {f : Nat} {pf : PFn} {b : Bool} (hpf : E.pf f = some pf) (hp : pf.pure = true) (hc : (callN E k f [] []).map (·.1) = some (.bool b)) (h : Heap) : doCall E (callR E) f [] h = some (.bool b, h) := by
  rw [Option.map_eq_some_iff] at hc
  obtain ⟨⟨v, h'⟩, h1, h2⟩ := hc
  simp only at h2
  subst h2
  simp only [doCall, hpf, hp, if_true, PV.lowL, callR_some h1]
  have : pop 0 (.bool b) h' = some (.bool b, []) := by
    unfold pop
    have : snap h' 0 4 (.bool b) = some (.bool b) := by simp [snap, PV.low]
    rw [this]
    simp [heapLow]
  rw [this]

end Go.VI
