/- Chapter 20: the types of operators, literals, members; what matches. -/
import Derived.Test.YtefikcjiblkmgaaGreatDoorF20g
import Derived.Test.YtefikcjiblkmgaaGreatDoorVC
set_option maxRecDepth 100000
set_option linter.unusedSimpArgs false
set_option linter.unusedVariables false
set_option pp.deepTerms.threshold 4
set_option pp.deepTerms false
namespace Go.VI.S
open Go.VI
theorem ty_eq {a b : Int} {s t : Str} : eqTop (.parts [(0,1,.ei),(1,1,.es)]) (.agg [.int .i64 a,.str s]) (.agg [.int .i64 b,.str t]) = some (decide ((⟨a,s⟩ : Ty) = ⟨b,t⟩)) := by
  have e1 : (a == b) = decide (a = b) := int_beq
  have e2 : (s == t) = decide (s = t) := str_beq
  by_cases h1 : a = b
  · by_cases h2 : s = t
    · simp [eqTop,eqShL,eqSh,h1,h2]
    · simp [eqTop,eqShL,eqSh,e2,h1,h2]
  · simp [eqTop,eqShL,eqSh,e1,h1]
theorem ty_eta {t : Ty} : (⟨t.kind,t.name⟩ : Ty) = t := rfl
abbrev tz : Ty := ⟨0,[]⟩
abbrev encR (r : Ty × Int) : PV := .tuple [.agg [.int .i64 r.1.kind,.str r.1.name],.int .i64 r.2]
def isNm (k : Int) : Bool := decide ((1 ≤ k ∧ k ≤ 3) ∨ (5 ≤ k ∧ k ≤ 7))
def typedF (b : Bool) (t : Ty) : Ty × Int := if b then (t,0) else (tz,12)
theorem typed_ok (b : Bool) (t : Ty) (h : Heap) : doCall E (callR E) 125 [.bool b,.agg [.int .i64 t.kind,.str t.name]] h = some (encR (typedF b t),h) := by
  refine call_pure (pf := p125) rfl rfl rfl rfl (by simp [PV.lowL,PV.low]) (by simp [PV.low,PV.lowL]) ?_ h
  show kQ E _ (endQ [⟨4,some (some 2)⟩,⟨5,none⟩] _) .norm { lvl := 0,tmps := mk 10 [(0,.bool b),(1,.agg [.int .i64 t.kind,.str t.name])],heap := [[none]],defers := [] }
  cases b
  all_goals
    repeat' first | ((with_reducible first | refine cS ?_ ?_ | refine oS ?_ ?_ | refine dS ?_ ?_) <;> intro _) | ((with_reducible refine kk ?_ ?_); · rfl) | (simp -implicitDefEqProofs (disch := first | omega | assumption) only [push_cast,simprocAttr,eqTop,eqShL,eqSh,K_seq]) | ((with_reducible first | refine cB ?_ ?_ | refine oB ?_ ?_ | refine dB ?_ ?_) <;> intro _)
  all_goals rfl
theorem typed_okc (b : Bool) (k : Int) (n : Str) (h : Heap) : doCall E (callR E) 125 [.bool b,.agg [.int .i64 k,.str n]] h = some (encR (typedF b ⟨k,n⟩),h) := typed_ok b ⟨k,n⟩ h
theorem num_ok (k : Int) (n : Str) (h : Heap) : doCall E (callR E) 126 [.agg [.int .i64 k,.str n]] h = some (.bool (isNm k),h) := by
  refine call_pure (pf := p126) rfl rfl rfl rfl (by simp [PV.lowL,PV.low]) (by simp [PV.low,PV.lowL]) ?_ h
  show kQ E _ (endQ [⟨2,none⟩] _) .norm { lvl := 0,tmps := mk 14 [(0,.agg [.int .i64 k,.str n])],heap := [[]],defers := [] }
  repeat' first | ((with_reducible first | refine cS ?_ ?_ | refine oS ?_ ?_ | refine dS ?_ ?_) <;> intro _) | ((with_reducible refine kk ?_ ?_); · rfl) | (simp -implicitDefEqProofs (disch := first | omega | assumption) only [push_cast,simprocAttr,eqTop,eqShL,eqSh,K_seq,sc_ok,vc_ok,isSc,isVc]) | ((with_reducible first | refine cB ?_ ?_ | refine oB ?_ ?_ | refine dB ?_ ?_) <;> intro _)
  all_goals simp only [isNm,PV.bool.injEq,Bool.false_eq,Bool.true_eq,decide_eq_true_eq,decide_eq_false_iff_not,decide_eq_decide]; omega
def litF (k v l : Int) : Ty × Int := if v < 0 ∨ v > l then (tz,6) else (⟨k,[]⟩,0)
theorem lit_ok (k v l : Int) (h : Heap) : doCall E (callR E) 79 [.int .i64 k,.int .i64 v,.int .i64 l] h = some (encR (litF k v l),h) := by
  refine call_pure (pf := p79) rfl rfl rfl rfl (by simp [PV.lowL,PV.low]) (by simp [PV.low,PV.lowL]) ?_ h
  show kQ E _ (endQ [⟨6,some (some 2)⟩,⟨7,none⟩] _) .norm { lvl := 0,tmps := mk 18 [(0,.int .i64 k),(1,.int .i64 v),(2,.int .i64 l)],heap := [[none]],defers := [] }
  repeat' first | ((with_reducible first | refine cS ?_ ?_ | refine oS ?_ ?_ | refine dS ?_ ?_) <;> intro _) | ((with_reducible refine kk ?_ ?_); · rfl) | (simp -implicitDefEqProofs (disch := first | omega | assumption) only [push_cast,simprocAttr,eqTop,eqShL,eqSh,K_seq,kind_ok]) | ((with_reducible first | refine cB ?_ ?_ | refine oB ?_ ?_ | refine dB ?_ ?_) <;> intro _)
  all_goals (unfold litF; (repeat' split) <;> first | rfl | omega)
def unaryF (op : Int) (t : Ty) : Ty × Int := if op = 17 then typedF (isNm t.kind) t else if op = 18 then typedF (decide (t.kind = 3 ∨ t.kind = 4)) t else (tz,10)
theorem unary_ok (op : Int) (t : Ty) (h : Heap) : doCall E (callR E) 81 [.int .i64 op,.agg [.int .i64 t.kind,.str t.name]] h = some (encR (unaryF op t),h) := by
  refine call_pure (pf := p81) rfl rfl rfl rfl (by simp [PV.lowL,PV.low]) (by simp [PV.low,PV.lowL]) ?_ h
  show kQ E _ (endQ [⟨4,some (some 2)⟩,⟨5,none⟩] _) .norm { lvl := 0,tmps := mk 30 [(0,.int .i64 op),(1,.agg [.int .i64 t.kind,.str t.name])],heap := [[none]],defers := [] }
  have pu126 : pureB E 126 = true := rfl
  repeat' first | ((with_reducible first | refine cS ?_ ?_ | refine oS ?_ ?_ | refine dS ?_ ?_) <;> intro _) | ((with_reducible refine kk ?_ ?_); · rfl) | (simp -implicitDefEqProofs (disch := first | omega | assumption) only [push_cast,simprocAttr,eqTop,eqShL,eqSh,K_seq,num_ok,typed_ok]) | ((with_reducible first | refine cB ?_ ?_ | refine oB ?_ ?_ | refine dB ?_ ?_) <;> intro _)
  all_goals simp_all [unaryF,typedF]
def binaryF (op : Int) (t u : Ty) : Ty × Int :=
  if op = 3 ∨ op = 4 then (if isVc t.kind = true ∧ u = ⟨1,[]⟩ then (t,0) else typedF (decide (t = u) && isNm t.kind) t)
  else if op = 1 ∨ op = 2 then typedF (decide (t = u) && isNm t.kind) t
  else if op = 5 ∨ op = 9 ∨ op = 10 then typedF (decide (t = u) && decide (t.kind = 3)) t
  else if op = 6 ∨ op = 7 ∨ op = 8 then typedF (decide (t = u) && decide (t.kind = 3 ∨ t.kind = 4)) t
  else if op = 11 ∨ op = 12 ∨ op = 13 ∨ op = 14 then typedF (decide (t = u) && isNm t.kind && !isVc t.kind) ⟨4,[]⟩
  else if op = 15 ∨ op = 16 then typedF (decide (t = u) && (isSc t.kind || isVc t.kind)) ⟨4,[]⟩
  else (tz,10)
set_option maxHeartbeats 2000000 in
theorem binary_ok (op : Int) (t u : Ty) (h : Heap) : doCall E (callR E) 82 [.int .i64 op,.agg [.int .i64 t.kind,.str t.name],.agg [.int .i64 u.kind,.str u.name]] h = some (encR (binaryF op t u),h) := by
  refine call_pure (pf := p82) rfl rfl rfl rfl (by simp [PV.lowL,PV.low]) (by simp [PV.low,PV.lowL]) ?_ h
  show kQ E _ (endQ [⟨6,some (some 2)⟩,⟨7,none⟩] _) .norm { lvl := 0,tmps := mk 114 [(0,.int .i64 op),(1,.agg [.int .i64 t.kind,.str t.name]),(2,.agg [.int .i64 u.kind,.str u.name])],heap := [[none]],defers := [] }
  have pu84 : pureB E 84 = true := rfl
  have pu126 : pureB E 126 = true := rfl
  repeat' first | ((with_reducible first | refine cS ?_ ?_ | refine oS ?_ ?_ | refine dS ?_ ?_) <;> intro _) | ((with_reducible refine kk ?_ ?_); · rfl) | (simp -implicitDefEqProofs (disch := first | omega | assumption) only [push_cast,simprocAttr,K_seq,ty_eq,ty_eta,num_ok,typed_okc,kind_ok,sc_ok,vc_ok,isNm,isSc,isVc]) | ((with_reducible first | refine cB ?_ ?_ | refine oB ?_ ?_ | refine dB ?_ ?_) <;> intro _)
  all_goals
    subst_vars
    simp [binaryF,typedF,isNm,isSc,isVc, *]
  all_goals trace_state
end Go.VI.S
