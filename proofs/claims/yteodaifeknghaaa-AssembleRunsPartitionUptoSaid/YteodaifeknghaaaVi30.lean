/- Codes without calls of their own: what VI's evaluator says of them is so. -/
import Derived.Test.YteodaifeknghaaaVi29
import Derived.LoopNIn
import Derived.RangeFuncRecord
namespace Go.VI
variable {g : PG} {c : Ctx} {w : World} {fr fr' : Fr} {a : Act}

def PG.at (g : PG) (lo : Nat) : PG := { g with lo := lo }

def PG.matchC (g : PG) : Bool → PC → Code → Bool
  | _, .skip, .skip => true
  | rd, .reg ops, .region _ os false => g.matchOps rd os ops os.toList
  | rd, .regd its gcL mxd, .region _ os true => g.drawOK rd os its gcL mxd
  | rd, .seq p q, .seq x y => g.matchC rd p x && g.matchC rd q y
  | rd, .cond t p q, .cond t' x y => g.matchX t t' && g.matchC rd p x && g.matchC rd q y
  | rd, .block i p, .block j x => Nat.beq i j && g.matchC rd p x
  | rd, .loop p, .loop x => g.matchC rd p x
  | _, .exit i, .exit j => Nat.beq i j
  | _, .ret, .ret => true
  | rd, .cln _ p, x => g.matchC rd p x
  | rd, .rangef _ f ps p q, .rangeFunc f' ps' x y => !rd && g.matchX f f' && decide (ps = ps'.toList) && g.matchC true p x && g.matchC true q y
  | _, _, _ => false

def exitOf : PEx → Exit
  | .norm => .normal
  | .exit id => .exit id
  | .ret => .ret

def EvSound (g : PG) (k : Nat) : Prop := ∀ (pc : PC) (fr : Fr) (ex : PEx) (fr' : Fr), evN g.E k pc fr = some (ex, fr') →
  ∀ (rd : Bool) (ro : Option Nat) (n : Nat) (code : Code) (c : Ctx) (w : World) (a : Act) (Q : Exit → Act → World → Prop), g.matchC rd pc code = true → (ro ≠ none → rd = true) → g.lo ≤ w.heap.size → FrRel g c w fr a → Goes g c w fr' (Q (exitOf ex)) →
    code.wpIn (wR ro) n g.P Q a w

def LoopSound (g : PG) (k : Nat) : Prop := ∀ (pc : PC) (fr : Fr) (ex : PEx) (fr' : Fr), evN g.E k (.loop pc) fr = some (ex, fr') →
  ∀ (rd : Bool) (ro : Option Nat) (n : Nat) (code : Code) (c : Ctx) (w : World) (a : Act) (Q : Exit → Act → World → Prop), g.matchC rd pc code = true → (ro ≠ none → rd = true) → g.lo ≤ w.heap.size → FrRel g c w fr a → Goes g c w fr' (Q (exitOf ex)) →
    Code.roundsIn (wR ro) n g.P code Q k a w

theorem keepE_get : ∀ (l : List PV) (ks : List Nat) (k i : Nat), (keepE k ks l).getD i .junk = l.getD i .junk ∨ (keepE k ks l).getD i .junk = .junk
  | [], ks, k, i => .inl (by simp [keepE])
  | v :: r, [], k, 0 => .inr (by simp [keepE])
  | v :: r, [], k, i + 1 => by
    have := keepE_get r [] (k + 1) i
    simpa [keepE] using this
  | v :: r, q :: ks, k, 0 => by
    unfold keepE
    split
    · exact .inl (by simp)
    · exact .inr (by simp)
  | v :: r, q :: ks, k, i + 1 => by
    unfold keepE
    split
    · have := keepE_get r ks (k + 1) i
      simpa using this
    · have := keepE_get r (q :: ks) (k + 1) i
      simpa using this

theorem keepE_len : ∀ (l : List PV) (ks : List Nat) (k : Nat), (keepE k ks l).length = l.length
  | [], ks, k => by simp [keepE]
  | v :: r, [], k => by simp [keepE, keepE_len r]
  | v :: r, q :: ks, k => by
    unfold keepE
    split <;> simp [keepE_len r]

theorem FrRel.cln (h : FrRel g c w fr a) (ks : List Nat) : FrRel g c w { fr with tmps := keepE 0 ks fr.tmps } a := by
  refine ⟨(keepE_len fr.tmps ks 0).trans h.size, fun i => ?_, h.heap, h.wf, h.defs, h.hn⟩
  show VRel c w ((keepE 0 ks fr.tmps).getD i .junk) _
  rcases keepE_get fr.tmps ks 0 i with e | e
  · rw [e]; exact h.tmps i
  · rw [e]; exact .i _ _ (.junk _)

theorem then_exit {K : Act → World → Prop} {Q : Exit → Act → World → Prop} {ex : PEx} (h : ex ≠ .norm) : Exit.then K Q (exitOf ex) = Q (exitOf ex) := by
  cases ex with
  | norm => exact absurd rfl h
  | exit id => rfl
  | ret => rfl

theorem loop_succ {k : Nat} (hE : EvSound g k) (hL : LoopSound g k) : LoopSound g (k + 1) := by
  intro pc fr ex fr' hs rd ro n code c w a Q hm hrd hlo h hK
  simp only [evN] at hs
  show code.wpIn (wR ro) n g.P (Exit.then (Code.roundsIn (wR ro) n g.P code Q k) Q) a w
  split at hs
  · rename_i fr1 h1
    refine hE pc fr .norm fr1 h1 rd ro n code c w a _ hm hrd hlo h fun c1 w1 a1 hS1 hF1 => ?_
    exact hL pc fr1 ex fr' hs rd ro n code c1 w1 a1 Q hm hrd (Nat.le_trans hlo hS1.size) hF1 fun c2 w2 a2 hS2 hF2 => hK c2 w2 a2 (hS1.trans hS2) hF2
  · rename_i hne
    refine hE pc fr ex fr' hs rd ro n code c w a _ hm hrd hlo h ?_
    rw [then_exit (fun e => by subst e; exact hne _ hs)]
    exact hK

/-- All codes but ranges over functions. -/
theorem ev_succ {k : Nat} (hE : EvSound g k) (hL : LoopSound g k) (hcE : CallSound g (callN g.E k)) (hyE : YieldSound g (yieldN g.E k)) (hF : FnsOK g)
    (hR : ∀ s f ps p q fr ex fr', evN g.E (k + 1) (.rangef s f ps p q) fr = some (ex, fr') → ∀ (n : Nat) (code : Code) (c : Ctx) (w : World) (a : Act) (Q : Exit → Act → World → Prop), g.matchC false (.rangef s f ps p q) code = true → g.lo ≤ w.heap.size → FrRel g c w fr a → Goes g c w fr' (Q (exitOf ex)) → code.wpIn (wR none) n g.P Q a w) :
    EvSound g (k + 1) := by
  intro pc fr ex fr' hs rd ro n code c w a Q hm hrd hlo h hK
  cases pc with
  | skip =>
    simp only [evN, Option.some.injEq, Prod.mk.injEq] at hs
    obtain ⟨rfl, rfl⟩ := hs
    cases code <;> simp only [PG.matchC, Bool.false_eq_true] at hm
    exact wpIn_skip (hK c w a (Step.refl c w) h)
  | reg ops =>
    simp only [evN] at hs
    split at hs <;> simp only [Option.some.injEq, reduceCtorEq, Prod.mk.injEq] at hs
    rename_i fr1 h1
    obtain ⟨rfl, rfl⟩ := hs
    cases code with
    | region id os draw =>
      cases draw with
      | true => simp only [PG.matchC, Bool.false_eq_true] at hm
      | false => exact region_sound hcE hyE hF h hrd hm h1 hK
    | _ => simp only [PG.matchC, Bool.false_eq_true] at hm
  | regd its gcL mxd =>
    simp only [evN] at hs
    split at hs
    case isFalse => cases hs
    rename_i hlen
    split at hs <;> simp only [Option.some.injEq, reduceCtorEq, Prod.mk.injEq] at hs
    rename_i fr1 h1
    obtain ⟨rfl, rfl⟩ := hs
    cases code with
    | region id os draw =>
      cases draw with
      | false => simp only [PG.matchC, Bool.false_eq_true] at hm
      | true => exact draw_sound hcE hyE hF h hrd hm hlen h1 hK
    | _ => simp only [PG.matchC, Bool.false_eq_true] at hm
  | seq p q =>
    cases code <;> simp only [PG.matchC, Bool.false_eq_true, Bool.and_eq_true] at hm
    simp only [evN] at hs
    refine wpIn_seq ?_
    split at hs
    · rename_i fr1 h1
      exact hE p fr .norm fr1 h1 rd ro n _ c w a _ hm.1 hrd hlo h fun c1 w1 a1 hS1 hF1 =>
        hE q fr1 ex fr' hs rd ro n _ c1 w1 a1 Q hm.2 hrd (Nat.le_trans hlo hS1.size) hF1 fun c2 w2 a2 hS2 hF2 => hK c2 w2 a2 (hS1.trans hS2) hF2
    · rename_i hne
      refine hE p fr ex fr' hs rd ro n _ c w a _ hm.1 hrd hlo h ?_
      rw [then_exit (fun e => by subst e; exact hne _ hs)]
      exact hK
  | cond t p q =>
    cases code <;> simp only [PG.matchC, Bool.false_eq_true, Bool.and_eq_true] at hm
    simp only [evN] at hs
    split at hs
    case h_2 => cases hs
    rename_i b hb
    have hx := h.x hm.1.1
    rw [hb] at hx
    refine wpIn_cond hx.bool_inv ?_
    cases b with
    | true => exact hE p fr ex fr' hs rd ro n _ c w a Q hm.1.2 hrd hlo h hK
    | false => exact hE q fr ex fr' hs rd ro n _ c w a Q hm.2 hrd hlo h hK
  | block id p =>
    cases code <;> simp only [PG.matchC, Bool.false_eq_true, Bool.and_eq_true] at hm
    rename_i id2 x
    have := beq_nat hm.1
    subst this
    simp only [evN] at hs
    refine wpIn_block ?_
    split at hs
    · rename_i id' fr1 h1
      split at hs <;> simp only [Option.some.injEq, Prod.mk.injEq] at hs
      · rename_i hid
        obtain ⟨rfl, rfl⟩ := hs
        refine hE p fr _ _ h1 rd ro n _ c w a _ hm.2 hrd hlo h fun c1 w1 a1 hS1 hF1 => ?_
        simp only [exitOf, Exit.inBlock, hid, if_true]
        exact hK c1 w1 a1 hS1 hF1
      · rename_i hid
        obtain ⟨rfl, rfl⟩ := hs
        refine hE p fr _ _ h1 rd ro n _ c w a _ hm.2 hrd hlo h fun c1 w1 a1 hS1 hF1 => ?_
        simp only [exitOf, Exit.inBlock, hid, if_false]
        exact hK c1 w1 a1 hS1 hF1
    · rename_i hne
      refine hE p fr ex fr' hs rd ro n _ c w a _ hm.2 hrd hlo h fun c1 w1 a1 hS1 hF1 => ?_
      cases ex with
      | norm => exact hK c1 w1 a1 hS1 hF1
      | ret => exact hK c1 w1 a1 hS1 hF1
      | exit id' => exact absurd hs (hne _ _)
  | loop p =>
    cases code <;> simp only [PG.matchC, Bool.false_eq_true] at hm
    exact wpIn_loop_rounds (k + 1) (loop_succ hE hL p fr ex fr' hs rd ro n _ c w a Q hm hrd hlo h hK)
  | exit id =>
    cases code <;> simp only [PG.matchC, Bool.false_eq_true] at hm
    simp only [evN, Option.some.injEq, Prod.mk.injEq] at hs
    obtain ⟨rfl, rfl⟩ := hs
    have := beq_nat hm
    subst this
    exact wpIn_exit (hK c w a (Step.refl c w) h)
  | ret =>
    cases code <;> simp only [PG.matchC, Bool.false_eq_true] at hm
    simp only [evN, Option.some.injEq, Prod.mk.injEq] at hs
    obtain ⟨rfl, rfl⟩ := hs
    exact wpIn_ret (hK c w a (Step.refl c w) h)
  | cln m p =>
    simp only [evN] at hs
    have hm' : g.matchC rd p code = true := by cases code <;> simpa only [PG.matchC] using hm
    exact hE p _ ex fr' hs rd ro n _ c w a Q hm' hrd hlo (h.cln m) hK
  | rangef s f ps p q =>
    have hrd' : rd = false := by
      cases code <;> simp only [PG.matchC, Bool.false_eq_true, Bool.and_eq_true] at hm
      simpa using hm.1.1.1.1
    subst hrd'
    have hro : ro = none := by
      cases ro with
      | none => rfl
      | some l => exact absurd (hrd (by simp)) (by simp)
    subst hro
    exact hR s f ps p q fr ex fr' hs n code c w a Q hm hlo h hK

end Go.VI
