/- Small laws for evaluations by rules. -/
import Derived.Test.YteodaifeknghaaaVi36
namespace Go.VI
variable {E : Env} {ks : List KI} {Q : PEx → Fr → Prop} {fr : Fr}

/-- One round of a loop that has a name. -/
theorem loopK' {c a : PC} (hc : c = .loop a) (h : kQ E (.code a :: .code c :: ks) Q .norm fr) : kQ E (.code c :: ks) Q .norm fr := by
  subst hc
  exact loopK h

theorem optK_gsplit {p : Prop} [Decidable p] {b : Bool} {o : PPO} (h1 : p → optK E (guS E (some (true == b)) o fr) ks Q) (h2 : ¬ p → optK E (guS E (some (false == b)) o fr) ks Q) : optK E (guS E (some (decide p == b)) o fr) ks Q := by
  by_cases h : p
  · rw [decide_eq_true h]; exact h1 h
  · rw [decide_eq_false h]; exact h2 h

def pureB (E : Env) (f : Nat) : Bool := match E.pf f with | some pf => pf.pure | none => false

/-- Behind a call of a function that writes nothing. -/
theorem optD_call {fr' : Fr} {past : List DPO} {ix f : Nat} {a b : List PV} {args : List PX} {dst : Option Nat} {gd : Option (Nat × Bool)} {anc chk : List Nat} {r : List DPO} (h : pureB E f = true) :
    optD E (some fr') past { ix := ix, o := { dst := dst, op := .call (.c (.fn f a b)) args, guard := gd }, isC := true, anc := anc, chk := chk } r fr ks Q = kQ E (.its past r :: ks) Q .norm fr' := by
  have : quiet E { dst := dst, op := .call (.c (.fn f a b)) args, guard := gd } fr.tmps = true := h
  simp [optD, optQ, goOn, pastOf, this]

theorem look_keep {ks : List Nat} {l : List (Nat × PV)} {i : Nat} : look (keepL ks l) i = if i ∈ ks then look l i else .junk := look_keepL

theorem int_beq {a b : Int} : (a == b) = decide (a = b) := by
  by_cases h : a = b
  · simp [h]
  · simp [h]
theorem int_bne {a b : Int} : (a != b) = !decide (a = b) := by rw [bne, int_beq]
theorem natbeq_self {n : Nat} : Nat.beq n n = true := Nat.beq_refl n
theorem headSz_nil {n : Nat} : headSz n [] = true := by unfold headSz; rfl
theorem headSz_cons {n : Nat} {e : PV} {r : List PV} : headSz n (e :: r) = Nat.beq e.cells.length n := by unfold headSz; rfl
theorem beq_tf : (true == false) = false := rfl
theorem beq_ft : (false == true) = false := rfl
theorem zero_ne_one' : ((0 : Nat) = 1) = False := by simp
theorem one_ne_zero' : ((1 : Nat) = 0) = False := by simp
theorem ite_true_prop {p : Prop} [Decidable p] : (if p then True else True) = True := by simp

theorem wrap64 {x : Int} (h1 : -9223372036854775808 ≤ x) (h2 : x ≤ 9223372036854775807) : IntKind.i64.wrap x = x := by
  simp [IntKind.wrap, IntKind.bits, IntKind.signed]
  split <;> omega

theorem tmod3 (n : Int) : n.tmod 3 = -2 ∨ n.tmod 3 = -1 ∨ n.tmod 3 = 0 ∨ n.tmod 3 = 1 ∨ n.tmod 3 = 2 := by
  rcases Int.le_total 0 n with h | h
  · rw [Int.tmod_eq_emod_of_nonneg h]; omega
  · have h2 : n = -(-n) := by omega
    rw [h2, Int.neg_tmod, Int.tmod_eq_emod_of_nonneg (by omega : 0 ≤ -n)]; omega

end Go.VI
