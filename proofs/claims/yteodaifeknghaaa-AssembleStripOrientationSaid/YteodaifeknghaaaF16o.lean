/- Chapter 16: the reference's edges. -/
import Derived.Test.YteodaifeknghaaaF16e
set_option maxRecDepth 100000
set_option linter.unusedSimpArgs false
set_option linter.unusedVariables false
namespace Go.VI.S
open Go.VI
open Go.VI.S0 (T2 ed lessF encE encE_len encE_take encE_hsz encE_apps encE_cons' encE_app' encE_nil encE_takeN encE_dropN encE_low)
def hasR (a b c p q : Int) : Bool := decide ((a = p ∧ (b = q ∨ c = q)) ∨ (b = p ∧ (a = q ∨ c = q)) ∨ (c = p ∧ (a = q ∨ b = q)))
set_option maxHeartbeats 4000000 in
theorem has_ok (a b c p q : Int) (h : Heap) : doCall E (callR E) 33 [.agg [.int .i64 a,.int .i64 b,.int .i64 c],.agg [.int .i64 p,.int .i64 q]] h = some (.bool (hasR a b c p q),h) := by
  refine call_pure (pf := p33) rfl rfl rfl rfl (by simp [PV.lowL,PV.low]) (by simp [PV.low,PV.lowL]) ?_ h
  show kQ E _ (endQ [⟨4,none⟩] _) .norm { lvl := 0,tmps := mk 34 [(0,.agg [.int .i64 a,.int .i64 b,.int .i64 c]),(1,.agg [.int .i64 p,.int .i64 q])],heap := [[]],defers := [] }
  repeat' first | ((with_reducible first | refine cS ?_ ?_ | refine oS ?_ ?_ | refine dS ?_ ?_) <;> intro _) | ((with_reducible refine kk ?_ ?_); · rfl) | (simp -implicitDefEqProofs (disch := first | omega | assumption) only [push_cast,simprocAttr,eqTop,eqShL,eqSh,K_seq,true_and]) | ((with_reducible first | refine cB ?_ ?_ | refine oB ?_ ?_ | refine dB ?_ ?_) <;> intro _) | refine loopK' (c := p33l0) rfl ?_ | refine loopK' (c := p33l1) rfl ?_
  all_goals (simp only [hasR,PV.bool.injEq,Bool.true_eq,Bool.false_eq,decide_eq_true_eq,decide_eq_false_iff_not]; omega)
end Go.VI.S
