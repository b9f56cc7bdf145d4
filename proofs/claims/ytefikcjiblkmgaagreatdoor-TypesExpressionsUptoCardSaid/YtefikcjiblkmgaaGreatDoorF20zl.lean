/- Chapter 20: the law TypesExpressions. -/
import Derived.Test.YtefikcjiblkmgaaGreatDoorF20zg
import Derived.Test.YtefikcjiblkmgaaGreatDoorF20zk
import Derived.Test.YtefikcjiblkmgaaGreatDoorX20
set_option maxRecDepth 100000
set_option linter.unusedSimpArgs false
set_option linter.unusedVariables false
set_option pp.deepTerms.threshold 4
set_option pp.deepTerms false
namespace Go.VI.S
open Go.VI
set_option maxHeartbeats 2000000 in
theorem law3 (m : Mod) (hm : m.Ok) (hs : m.OkS) (fs : Fl) (sc : List Fld) (hsc : sc.length ≤ 1048576) (ee : Ex) (he : ee.size ≤ 1048576) (h : Heap) : doCall E (callR E) 3 [.agg m.c,.vs fs (flds sc),.agg ee.c] h = some (.bool true,h) := by
  have h1 := m.hm
  have he2 := ee.low
  have hx := fun h => exprtype_ok _ ee (Nat.le_refl _) he m hm fs sc hsc h
  have hk := fun h => known_ok m hm hs fs sc hsc h
  refine call_pure (pf := p3) rfl rfl rfl rfl (by simp [PV.lowL,PV.low,strs_low,flds_low,scts_low,funs_low,h1,he2]) (by simp [PV.low,PV.lowL,strs_low,flds_low,scts_low,funs_low,h1,he2]) ?_ h
  show kQ E _ (endQ [⟨6,none⟩] _) .norm { lvl := 0,tmps := mk 41 [(0,.agg m.c),(1,.vs fs (flds sc)),(2,.agg ee.c)],heap := [[none,none]],defers := [] }
  cases hkn : knownF m sc
  · repeat' first | ((with_reducible first | refine cS ?_ ?_ | refine oS ?_ ?_ | refine dS ?_ ?_) <;> intro _) | ((with_reducible refine kk ?_ ?_); · rfl) | (simp -implicitDefEqProofs (disch := first | omega | assumption) only [push_cast,simprocAttr,eqTop,eqShL,eqSh,K_seq,hk,hkn,ex_ok,h1,he2,Ex.c_len,take5]) | ((with_reducible first | refine cB ?_ ?_ | refine oB ?_ ?_ | refine dB ?_ ?_) <;> intro _)
  · have hg := known_gd hkn
    have hy := fun h => rexpr_ok _ ee (Nat.le_refl _) he m hm hg.1 fs sc hsc hg.2 h
    repeat' first | ((with_reducible first | refine cS ?_ ?_ | refine oS ?_ ?_ | refine dS ?_ ?_) <;> intro _) | ((with_reducible refine kk ?_ ?_); · rfl) | (simp -implicitDefEqProofs (disch := first | omega | assumption) only [push_cast,simprocAttr,K_seq,ty_eq,ty_eta,hk,hkn,hx,hy,ex_ok,h1,he2,Ex.c_len,take5]) | ((with_reducible first | refine cB ?_ ?_ | refine oB ?_ ?_ | refine dB ?_ ?_) <;> intro _)
end Go.VI.S
