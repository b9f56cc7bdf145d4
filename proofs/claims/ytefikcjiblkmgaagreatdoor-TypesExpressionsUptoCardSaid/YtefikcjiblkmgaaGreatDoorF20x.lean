/- Chapter 20: the reference's built-in functions. -/
import Derived.Test.YtefikcjiblkmgaaGreatDoorF20w
set_option maxRecDepth 100000
set_option linter.unusedSimpArgs false
set_option linter.unusedVariables false
set_option pp.deepTerms.threshold 4
set_option pp.deepTerms false
namespace Go.VI.S
open Go.VI
def rcalcF (nm : Str) (a b c : Ty) : Ty × Int :=
  if nm = [109,105,110] ∨ nm = [109,97,120] then typedF (arF a && decide (b = a)) a
  else if nm = [99,108,97,109,112] then typedF (arF a && (decide (b = a) && decide (c = a))) a
  else if nm = [97,98,115] then typedF (arF a) a
  else if nm = [100,111,116] then typedF (veF a && decide (b = a)) ⟨1,[]⟩
  else if nm = [109,105,120] then typedF ((decide (a = ⟨1,[]⟩) || veF a) && (decide (b = a) && decide (c = ⟨1,[]⟩))) a
  else typedF (decide (a = ⟨1,[]⟩)) ⟨1,[]⟩
set_option maxHeartbeats 4000000 in
theorem rc_min (f : Fl) (a b : Ty) (h : Heap) : doCall E (callR E) 96 [.str [109,105,110],.vs f (tys [a,b])] h = some (encR (rcalcF [109,105,110] a b tz),h) := by
  cases har : arF a
  all_goals cases hve : veF a
  all_goals
    refine call_pure (pf := p96) rfl rfl rfl rfl (by simp [PV.lowL,PV.low]) (by simp [PV.low,PV.lowL]) ?_ h
    show kQ E _ (endQ [⟨4,some (some 2)⟩,⟨5,none⟩] _) .norm { lvl := 0,tmps := mk 108 [(0,.str [109,105,110]),(1,.vs f (tys [a,b]))],heap := [[none,none,none]],defers := [] }
    have pu45 : pureB E 45 = true := rfl
    have pu89 : pureB E 89 = true := rfl
    have pu90 : pureB E 90 = true := rfl
    repeat' first | ((with_reducible first | refine cS ?_ ?_ | refine oS ?_ ?_ | refine dS ?_ ?_) <;> intro _) | ((with_reducible refine kk ?_ ?_); · rfl) | (simp -implicitDefEqProofs (disch := first | omega | assumption) only [push_cast,simprocAttr,K_seq,ty_eq,ty_eta,tys1,tys2,tys3,l_beq,l_beq0,l_beq1,l_beq2,UInt8.reduceToNat,binS,of_ok,arith_ok,rvec_ok,rwhen_ok,har,hve]) | ((with_reducible first | refine cB ?_ ?_ | refine oB ?_ ?_ | refine dB ?_ ?_) <;> intro _)
  all_goals first
    | (simp [rcalcF,har,hve, *]; done)
    | (subst_vars; simp_all [rcalcF]; done)
    | trace_state
set_option maxHeartbeats 4000000 in
theorem rc_max (f : Fl) (a b : Ty) (h : Heap) : doCall E (callR E) 96 [.str [109,97,120],.vs f (tys [a,b])] h = some (encR (rcalcF [109,97,120] a b tz),h) := by
  cases har : arF a
  all_goals cases hve : veF a
  all_goals
    refine call_pure (pf := p96) rfl rfl rfl rfl (by simp [PV.lowL,PV.low]) (by simp [PV.low,PV.lowL]) ?_ h
    show kQ E _ (endQ [⟨4,some (some 2)⟩,⟨5,none⟩] _) .norm { lvl := 0,tmps := mk 108 [(0,.str [109,97,120]),(1,.vs f (tys [a,b]))],heap := [[none,none,none]],defers := [] }
    have pu45 : pureB E 45 = true := rfl
    have pu89 : pureB E 89 = true := rfl
    have pu90 : pureB E 90 = true := rfl
    repeat' first | ((with_reducible first | refine cS ?_ ?_ | refine oS ?_ ?_ | refine dS ?_ ?_) <;> intro _) | ((with_reducible refine kk ?_ ?_); · rfl) | (simp -implicitDefEqProofs (disch := first | omega | assumption) only [push_cast,simprocAttr,K_seq,ty_eq,ty_eta,tys1,tys2,tys3,l_beq,l_beq0,l_beq1,l_beq2,UInt8.reduceToNat,binS,of_ok,arith_ok,rvec_ok,rwhen_ok,har,hve]) | ((with_reducible first | refine cB ?_ ?_ | refine oB ?_ ?_ | refine dB ?_ ?_) <;> intro _)
  all_goals first
    | (simp [rcalcF,har,hve, *]; done)
    | (subst_vars; simp_all [rcalcF]; done)
    | trace_state
set_option maxHeartbeats 4000000 in
theorem rc_clamp (f : Fl) (a b c : Ty) (h : Heap) : doCall E (callR E) 96 [.str [99,108,97,109,112],.vs f (tys [a,b,c])] h = some (encR (rcalcF [99,108,97,109,112] a b c),h) := by
  cases har : arF a
  all_goals cases hve : veF a
  all_goals
    refine call_pure (pf := p96) rfl rfl rfl rfl (by simp [PV.lowL,PV.low]) (by simp [PV.low,PV.lowL]) ?_ h
    show kQ E _ (endQ [⟨4,some (some 2)⟩,⟨5,none⟩] _) .norm { lvl := 0,tmps := mk 108 [(0,.str [99,108,97,109,112]),(1,.vs f (tys [a,b,c]))],heap := [[none,none,none]],defers := [] }
    have pu45 : pureB E 45 = true := rfl
    have pu89 : pureB E 89 = true := rfl
    have pu90 : pureB E 90 = true := rfl
    repeat' first | ((with_reducible first | refine cS ?_ ?_ | refine oS ?_ ?_ | refine dS ?_ ?_) <;> intro _) | ((with_reducible refine kk ?_ ?_); · rfl) | (simp -implicitDefEqProofs (disch := first | omega | assumption) only [push_cast,simprocAttr,K_seq,ty_eq,ty_eta,tys1,tys2,tys3,l_beq,l_beq0,l_beq1,l_beq2,UInt8.reduceToNat,binS,of_ok,arith_ok,rvec_ok,rwhen_ok,har,hve]) | ((with_reducible first | refine cB ?_ ?_ | refine oB ?_ ?_ | refine dB ?_ ?_) <;> intro _)
  all_goals first
    | (simp [rcalcF,har,hve, *]; done)
    | (subst_vars; simp_all [rcalcF]; done)
    | trace_state
set_option maxHeartbeats 4000000 in
theorem rc_abs (f : Fl) (a : Ty) (h : Heap) : doCall E (callR E) 96 [.str [97,98,115],.vs f (tys [a])] h = some (encR (rcalcF [97,98,115] a tz tz),h) := by
  cases har : arF a
  all_goals cases hve : veF a
  all_goals
    refine call_pure (pf := p96) rfl rfl rfl rfl (by simp [PV.lowL,PV.low]) (by simp [PV.low,PV.lowL]) ?_ h
    show kQ E _ (endQ [⟨4,some (some 2)⟩,⟨5,none⟩] _) .norm { lvl := 0,tmps := mk 108 [(0,.str [97,98,115]),(1,.vs f (tys [a]))],heap := [[none,none,none]],defers := [] }
    have pu45 : pureB E 45 = true := rfl
    have pu89 : pureB E 89 = true := rfl
    have pu90 : pureB E 90 = true := rfl
    repeat' first | ((with_reducible first | refine cS ?_ ?_ | refine oS ?_ ?_ | refine dS ?_ ?_) <;> intro _) | ((with_reducible refine kk ?_ ?_); · rfl) | (simp -implicitDefEqProofs (disch := first | omega | assumption) only [push_cast,simprocAttr,K_seq,ty_eq,ty_eta,tys1,tys2,tys3,l_beq,l_beq0,l_beq1,l_beq2,UInt8.reduceToNat,binS,of_ok,arith_ok,rvec_ok,rwhen_ok,har,hve]) | ((with_reducible first | refine cB ?_ ?_ | refine oB ?_ ?_ | refine dB ?_ ?_) <;> intro _)
  all_goals first
    | (simp [rcalcF,har,hve, *]; done)
    | (subst_vars; simp_all [rcalcF]; done)
    | trace_state
set_option maxHeartbeats 4000000 in
theorem rc_floor (f : Fl) (a : Ty) (h : Heap) : doCall E (callR E) 96 [.str [102,108,111,111,114],.vs f (tys [a])] h = some (encR (rcalcF [102,108,111,111,114] a tz tz),h) := by
  cases har : arF a
  all_goals cases hve : veF a
  all_goals
    refine call_pure (pf := p96) rfl rfl rfl rfl (by simp [PV.lowL,PV.low]) (by simp [PV.low,PV.lowL]) ?_ h
    show kQ E _ (endQ [⟨4,some (some 2)⟩,⟨5,none⟩] _) .norm { lvl := 0,tmps := mk 108 [(0,.str [102,108,111,111,114]),(1,.vs f (tys [a]))],heap := [[none,none,none]],defers := [] }
    have pu45 : pureB E 45 = true := rfl
    have pu89 : pureB E 89 = true := rfl
    have pu90 : pureB E 90 = true := rfl
    repeat' first | ((with_reducible first | refine cS ?_ ?_ | refine oS ?_ ?_ | refine dS ?_ ?_) <;> intro _) | ((with_reducible refine kk ?_ ?_); · rfl) | (simp -implicitDefEqProofs (disch := first | omega | assumption) only [push_cast,simprocAttr,K_seq,ty_eq,ty_eta,tys1,tys2,tys3,l_beq,l_beq0,l_beq1,l_beq2,UInt8.reduceToNat,binS,of_ok,arith_ok,rvec_ok,rwhen_ok,har,hve]) | ((with_reducible first | refine cB ?_ ?_ | refine oB ?_ ?_ | refine dB ?_ ?_) <;> intro _)
  all_goals first
    | (simp [rcalcF,har,hve, *]; done)
    | (subst_vars; simp_all [rcalcF]; done)
    | trace_state
set_option maxHeartbeats 4000000 in
theorem rc_fract (f : Fl) (a : Ty) (h : Heap) : doCall E (callR E) 96 [.str [102,114,97,99,116],.vs f (tys [a])] h = some (encR (rcalcF [102,114,97,99,116] a tz tz),h) := by
  cases har : arF a
  all_goals cases hve : veF a
  all_goals
    refine call_pure (pf := p96) rfl rfl rfl rfl (by simp [PV.lowL,PV.low]) (by simp [PV.low,PV.lowL]) ?_ h
    show kQ E _ (endQ [⟨4,some (some 2)⟩,⟨5,none⟩] _) .norm { lvl := 0,tmps := mk 108 [(0,.str [102,114,97,99,116]),(1,.vs f (tys [a]))],heap := [[none,none,none]],defers := [] }
    have pu45 : pureB E 45 = true := rfl
    have pu89 : pureB E 89 = true := rfl
    have pu90 : pureB E 90 = true := rfl
    repeat' first | ((with_reducible first | refine cS ?_ ?_ | refine oS ?_ ?_ | refine dS ?_ ?_) <;> intro _) | ((with_reducible refine kk ?_ ?_); · rfl) | (simp -implicitDefEqProofs (disch := first | omega | assumption) only [push_cast,simprocAttr,K_seq,ty_eq,ty_eta,tys1,tys2,tys3,l_beq,l_beq0,l_beq1,l_beq2,UInt8.reduceToNat,binS,of_ok,arith_ok,rvec_ok,rwhen_ok,har,hve]) | ((with_reducible first | refine cB ?_ ?_ | refine oB ?_ ?_ | refine dB ?_ ?_) <;> intro _)
  all_goals first
    | (simp [rcalcF,har,hve, *]; done)
    | (subst_vars; simp_all [rcalcF]; done)
    | trace_state
set_option maxHeartbeats 4000000 in
theorem rc_sqrt (f : Fl) (a : Ty) (h : Heap) : doCall E (callR E) 96 [.str [115,113,114,116],.vs f (tys [a])] h = some (encR (rcalcF [115,113,114,116] a tz tz),h) := by
  cases har : arF a
  all_goals cases hve : veF a
  all_goals
    refine call_pure (pf := p96) rfl rfl rfl rfl (by simp [PV.lowL,PV.low]) (by simp [PV.low,PV.lowL]) ?_ h
    show kQ E _ (endQ [⟨4,some (some 2)⟩,⟨5,none⟩] _) .norm { lvl := 0,tmps := mk 108 [(0,.str [115,113,114,116]),(1,.vs f (tys [a]))],heap := [[none,none,none]],defers := [] }
    have pu45 : pureB E 45 = true := rfl
    have pu89 : pureB E 89 = true := rfl
    have pu90 : pureB E 90 = true := rfl
    repeat' first | ((with_reducible first | refine cS ?_ ?_ | refine oS ?_ ?_ | refine dS ?_ ?_) <;> intro _) | ((with_reducible refine kk ?_ ?_); · rfl) | (simp -implicitDefEqProofs (disch := first | omega | assumption) only [push_cast,simprocAttr,K_seq,ty_eq,ty_eta,tys1,tys2,tys3,l_beq,l_beq0,l_beq1,l_beq2,UInt8.reduceToNat,binS,of_ok,arith_ok,rvec_ok,rwhen_ok,har,hve]) | ((with_reducible first | refine cB ?_ ?_ | refine oB ?_ ?_ | refine dB ?_ ?_) <;> intro _)
  all_goals first
    | (simp [rcalcF,har,hve, *]; done)
    | (subst_vars; simp_all [rcalcF]; done)
    | trace_state
set_option maxHeartbeats 4000000 in
theorem rc_dot (f : Fl) (a b : Ty) (h : Heap) : doCall E (callR E) 96 [.str [100,111,116],.vs f (tys [a,b])] h = some (encR (rcalcF [100,111,116] a b tz),h) := by
  cases har : arF a
  all_goals cases hve : veF a
  all_goals
    refine call_pure (pf := p96) rfl rfl rfl rfl (by simp [PV.lowL,PV.low]) (by simp [PV.low,PV.lowL]) ?_ h
    show kQ E _ (endQ [⟨4,some (some 2)⟩,⟨5,none⟩] _) .norm { lvl := 0,tmps := mk 108 [(0,.str [100,111,116]),(1,.vs f (tys [a,b]))],heap := [[none,none,none]],defers := [] }
    have pu45 : pureB E 45 = true := rfl
    have pu89 : pureB E 89 = true := rfl
    have pu90 : pureB E 90 = true := rfl
    repeat' first | ((with_reducible first | refine cS ?_ ?_ | refine oS ?_ ?_ | refine dS ?_ ?_) <;> intro _) | ((with_reducible refine kk ?_ ?_); · rfl) | (simp -implicitDefEqProofs (disch := first | omega | assumption) only [push_cast,simprocAttr,K_seq,ty_eq,ty_eta,tys1,tys2,tys3,l_beq,l_beq0,l_beq1,l_beq2,UInt8.reduceToNat,binS,of_ok,arith_ok,rvec_ok,rwhen_ok,har,hve]) | ((with_reducible first | refine cB ?_ ?_ | refine oB ?_ ?_ | refine dB ?_ ?_) <;> intro _)
  all_goals first
    | (simp [rcalcF,har,hve, *]; done)
    | (subst_vars; simp_all [rcalcF]; done)
    | trace_state
set_option maxHeartbeats 4000000 in
theorem rc_mix (f : Fl) (a b c : Ty) (h : Heap) : doCall E (callR E) 96 [.str [109,105,120],.vs f (tys [a,b,c])] h = some (encR (rcalcF [109,105,120] a b c),h) := by
  cases har : arF a
  all_goals cases hve : veF a
  all_goals
    refine call_pure (pf := p96) rfl rfl rfl rfl (by simp [PV.lowL,PV.low]) (by simp [PV.low,PV.lowL]) ?_ h
    show kQ E _ (endQ [⟨4,some (some 2)⟩,⟨5,none⟩] _) .norm { lvl := 0,tmps := mk 108 [(0,.str [109,105,120]),(1,.vs f (tys [a,b,c]))],heap := [[none,none,none]],defers := [] }
    have pu45 : pureB E 45 = true := rfl
    have pu89 : pureB E 89 = true := rfl
    have pu90 : pureB E 90 = true := rfl
    repeat' first | ((with_reducible first | refine cS ?_ ?_ | refine oS ?_ ?_ | refine dS ?_ ?_) <;> intro _) | ((with_reducible refine kk ?_ ?_); · rfl) | (simp -implicitDefEqProofs (disch := first | omega | assumption) only [push_cast,simprocAttr,K_seq,ty_eq,ty_eta,tys1,tys2,tys3,l_beq,l_beq0,l_beq1,l_beq2,UInt8.reduceToNat,binS,of_ok,arith_ok,rvec_ok,rwhen_ok,har,hve]) | ((with_reducible first | refine cB ?_ ?_ | refine oB ?_ ?_ | refine dB ?_ ?_) <;> intro _)
  all_goals first
    | (simp [rcalcF,har,hve, *]; done)
    | (subst_vars; simp_all [rcalcF]; done)
    | trace_state
theorem rcalc_ok (f : Fl) (ts : List Ty) (nm : Str) (hn : nm ∈ nineL) (hl : ts.length = cntF nm) (hc : ∀ t ∈ ts,t.Cl) (h : Heap) : doCall E (callR E) 96 [.str nm,.vs f (tys ts)] h = some (encR (builtinF nm ts),h) := by
  simp only [nineL,List.mem_cons,List.not_mem_nil,or_false] at hn
  rcases hn with hn | hn | hn | hn | hn | hn | hn | hn | hn
  all_goals subst hn
  · obtain ⟨a,b,rfl⟩ := len2 hl
    have ha := hc a (by simp)
    rw [rc_min]
    have e1 : rcalcF [109,105,110] a b tz = typedF (arF a && decide (b = a)) a := rfl
    have e2 : builtinF [109,105,110] [a,b] = typedF (allSame [a,b] a && isNm a.kind) a := rfl
    rw [e1,e2,arF_cl ha]
    cases isNm a.kind <;> simp [allSame]
  · obtain ⟨a,b,rfl⟩ := len2 hl
    have ha := hc a (by simp)
    rw [rc_max]
    have e1 : rcalcF [109,97,120] a b tz = typedF (arF a && decide (b = a)) a := rfl
    have e2 : builtinF [109,97,120] [a,b] = typedF (allSame [a,b] a && isNm a.kind) a := rfl
    rw [e1,e2,arF_cl ha]
    cases isNm a.kind <;> simp [allSame]
  · obtain ⟨a,b,c,rfl⟩ := len3 hl
    have ha := hc a (by simp)
    rw [rc_clamp]
    have e1 : rcalcF [99,108,97,109,112] a b c = typedF (arF a && (decide (b = a) && decide (c = a))) a := rfl
    have e2 : builtinF [99,108,97,109,112] [a,b,c] = typedF (allSame [a,b,c] a && isNm a.kind) a := rfl
    rw [e1,e2,arF_cl ha]
    cases isNm a.kind <;> simp [allSame]
  · obtain ⟨a,rfl⟩ := len1 hl
    have ha := hc a (by simp)
    rw [rc_abs]
    have e1 : rcalcF [97,98,115] a tz tz = typedF (arF a) a := rfl
    have e2 : builtinF [97,98,115] [a] = typedF (allSame [a] a && isNm a.kind) a := rfl
    rw [e1,e2,arF_cl ha]
    cases isNm a.kind <;> simp [allSame]
  · obtain ⟨a,rfl⟩ := len1 hl
    have ha := hc a (by simp)
    rw [rc_floor]
    have e1 : rcalcF [102,108,111,111,114] a tz tz = typedF (decide (a = ⟨1,[]⟩)) ⟨1,[]⟩ := rfl
    have e2 : builtinF [102,108,111,111,114] [a] = typedF (decide (a = ⟨1,[]⟩)) ⟨1,[]⟩ := rfl
    rw [e1,e2]
  · obtain ⟨a,rfl⟩ := len1 hl
    have ha := hc a (by simp)
    rw [rc_fract]
    have e1 : rcalcF [102,114,97,99,116] a tz tz = typedF (decide (a = ⟨1,[]⟩)) ⟨1,[]⟩ := rfl
    have e2 : builtinF [102,114,97,99,116] [a] = typedF (decide (a = ⟨1,[]⟩)) ⟨1,[]⟩ := rfl
    rw [e1,e2]
  · obtain ⟨a,rfl⟩ := len1 hl
    have ha := hc a (by simp)
    rw [rc_sqrt]
    have e1 : rcalcF [115,113,114,116] a tz tz = typedF (decide (a = ⟨1,[]⟩)) ⟨1,[]⟩ := rfl
    have e2 : builtinF [115,113,114,116] [a] = typedF (decide (a = ⟨1,[]⟩)) ⟨1,[]⟩ := rfl
    rw [e1,e2]
  · obtain ⟨a,b,rfl⟩ := len2 hl
    have ha := hc a (by simp)
    rw [rc_dot]
    have e1 : rcalcF [100,111,116] a b tz = typedF (veF a && decide (b = a)) ⟨1,[]⟩ := rfl
    have e2 : builtinF [100,111,116] [a,b] = typedF (allSame [a,b] a && isVc a.kind) ⟨1,[]⟩ := rfl
    rw [e1,e2,veF_cl ha]
    cases isVc a.kind <;> simp [allSame]
  · obtain ⟨a,b,c,rfl⟩ := len3 hl
    have ha := hc a (by simp)
    rw [rc_mix]
    have e1 : rcalcF [109,105,120] a b c = typedF ((decide (a = ⟨1,[]⟩) || veF a) && (decide (b = a) && decide (c = ⟨1,[]⟩))) a := rfl
    have e2 : builtinF [109,105,120] [a,b,c] = typedF (allSame [a,b] a && (decide (c = ⟨1,[]⟩) && (decide (a = ⟨1,[]⟩) || isVc a.kind))) a := rfl
    rw [e1,e2,veF_cl ha]
    generalize hw : (decide (a = ⟨1,[]⟩) || isVc a.kind) = w
    cases w <;> simp [allSame]
end Go.VI.S
