/- Chapter 20: the type of an expression. -/
import Derived.Test.YtefikcjiblkmgaaGreatDoorF20qc
set_option maxRecDepth 100000
set_option linter.unusedSimpArgs false
set_option linter.unusedVariables false
set_option pp.deepTerms.threshold 4
set_option pp.deepTerms false
namespace Go.VI.S
open Go.VI
theorem tys_head0 {a : Ty} {r : List Ty} : (tys (a :: r))[0]? = some (.agg [.int .i64 a.kind,.str a.name]) := rfl
set_option maxHeartbeats 4000000 in
theorem node_ok (m : Mod) (hm : m.Ok) (fs : Fl) (sc : List Fld) (hsc : sc.length ≤ 1048576) (k o x : Int) (nm : Str) (fl : Fl) (as : List Ex) (ft : Fl) (ts : List Ty) (hl : ts.length = as.length) (hb : ts.length ≤ 1048576) (ha : k = 7 ∨ (as.length : Int) = arityF k) (h : Heap) :
    doCall E (callR E) 37 [.agg m.c,.vs fs (flds sc),.agg [.int .i64 k,.int .i64 o,.str nm,.int .i64 x,.vs fl (exs as)],.vs ft (tys ts)] h = some (encR (nodeF m sc k o nm x as ts),h) := by
  have h1 := m.hm
  have hk : k = 1 ∨ k = 2 ∨ k = 3 ∨ k = 4 ∨ k = 5 ∨ k = 6 ∨ k = 8 ∨ k = 9 ∨ k = 7 := by
    rcases ha with ha | ha
    · omega
    · unfold arityF at ha
      split at ha
      · omega
      · split at ha
        · omega
        · split at ha <;> omega
  rcases hk with hk | hk | hk | hk | hk | hk | hk | hk | hk
  · subst hk
    refine call_pure (pf := p37) rfl rfl rfl rfl (by simp [PV.lowL,PV.low,strs_low,flds_low,scts_low,funs_low,h1,exs_low,tys_low]) (by simp [PV.low,PV.lowL,strs_low,flds_low,scts_low,funs_low,h1,exs_low,tys_low]) ?_ h
    show kQ E _ (endQ [⟨8,some (some 2)⟩,⟨9,none⟩] _) .norm { lvl := 0,tmps := mk 104 [(0,.agg m.c),(1,.vs fs (flds sc)),(2,.agg [.int .i64 1,.int .i64 o,.str nm,.int .i64 x,.vs fl (exs as)]),(3,.vs ft (tys ts))],heap := [[none,none]],defers := [] }
    have pu84 : pureB E 84 = true := rfl
    repeat' first | ((with_reducible first | refine cS ?_ ?_ | refine oS ?_ ?_ | refine dS ?_ ?_) <;> intro _) | ((with_reducible refine kk ?_ ?_); · rfl) | (simp -implicitDefEqProofs (disch := first | omega | assumption) only [push_cast,simprocAttr,eqTop,eqShL,eqSh,K_seq,lit_ok]) | ((with_reducible first | refine cB ?_ ?_ | refine oB ?_ ?_ | refine dB ?_ ?_) <;> intro _)
    all_goals simp [nodeF]
  · subst hk
    refine call_pure (pf := p37) rfl rfl rfl rfl (by simp [PV.lowL,PV.low,strs_low,flds_low,scts_low,funs_low,h1,exs_low,tys_low]) (by simp [PV.low,PV.lowL,strs_low,flds_low,scts_low,funs_low,h1,exs_low,tys_low]) ?_ h
    show kQ E _ (endQ [⟨8,some (some 2)⟩,⟨9,none⟩] _) .norm { lvl := 0,tmps := mk 104 [(0,.agg m.c),(1,.vs fs (flds sc)),(2,.agg [.int .i64 2,.int .i64 o,.str nm,.int .i64 x,.vs fl (exs as)]),(3,.vs ft (tys ts))],heap := [[none,none]],defers := [] }
    have pu84 : pureB E 84 = true := rfl
    repeat' first | ((with_reducible first | refine cS ?_ ?_ | refine oS ?_ ?_ | refine dS ?_ ?_) <;> intro _) | ((with_reducible refine kk ?_ ?_); · rfl) | (simp -implicitDefEqProofs (disch := first | omega | assumption) only [push_cast,simprocAttr,eqTop,eqShL,eqSh,K_seq,lit_ok]) | ((with_reducible first | refine cB ?_ ?_ | refine oB ?_ ?_ | refine dB ?_ ?_) <;> intro _)
    all_goals simp [nodeF]
  · subst hk
    refine call_pure (pf := p37) rfl rfl rfl rfl (by simp [PV.lowL,PV.low,strs_low,flds_low,scts_low,funs_low,h1,exs_low,tys_low]) (by simp [PV.low,PV.lowL,strs_low,flds_low,scts_low,funs_low,h1,exs_low,tys_low]) ?_ h
    show kQ E _ (endQ [⟨8,some (some 2)⟩,⟨9,none⟩] _) .norm { lvl := 0,tmps := mk 104 [(0,.agg m.c),(1,.vs fs (flds sc)),(2,.agg [.int .i64 3,.int .i64 o,.str nm,.int .i64 x,.vs fl (exs as)]),(3,.vs ft (tys ts))],heap := [[none,none]],defers := [] }
    have pu84 : pureB E 84 = true := rfl
    repeat' first | ((with_reducible first | refine cS ?_ ?_ | refine oS ?_ ?_ | refine dS ?_ ?_) <;> intro _) | ((with_reducible refine kk ?_ ?_); · rfl) | (simp -implicitDefEqProofs (disch := first | omega | assumption) only [push_cast,simprocAttr,eqTop,eqShL,eqSh,K_seq,lit_ok]) | ((with_reducible first | refine cB ?_ ?_ | refine oB ?_ ?_ | refine dB ?_ ?_) <;> intro _)
    all_goals simp [nodeF]
  · subst hk
    refine call_pure (pf := p37) rfl rfl rfl rfl (by simp [PV.lowL,PV.low,strs_low,flds_low,scts_low,funs_low,h1,exs_low,tys_low]) (by simp [PV.low,PV.lowL,strs_low,flds_low,scts_low,funs_low,h1,exs_low,tys_low]) ?_ h
    show kQ E _ (endQ [⟨8,some (some 2)⟩,⟨9,none⟩] _) .norm { lvl := 0,tmps := mk 104 [(0,.agg m.c),(1,.vs fs (flds sc)),(2,.agg [.int .i64 4,.int .i64 o,.str nm,.int .i64 x,.vs fl (exs as)]),(3,.vs ft (tys ts))],heap := [[none,none]],defers := [] }
    have pu84 : pureB E 84 = true := rfl
    cases hv : varF m sc nm with
    | none =>
      repeat' first | ((with_reducible first | refine cS ?_ ?_ | refine oS ?_ ?_ | refine dS ?_ ?_) <;> intro _) | ((with_reducible refine kk ?_ ?_); · rfl) | (simp -implicitDefEqProofs (disch := first | omega | assumption) only [push_cast,simprocAttr,eqTop,eqShL,eqSh,K_seq,var_ok,hm,hsc,h1,hv,Option.getD_none,Option.isSome_none]) | ((with_reducible first | refine cB ?_ ?_ | refine oB ?_ ?_ | refine dB ?_ ?_) <;> intro _)
      all_goals simp [nodeF,varR,hv]
    | some t =>
      repeat' first | ((with_reducible first | refine cS ?_ ?_ | refine oS ?_ ?_ | refine dS ?_ ?_) <;> intro _) | ((with_reducible refine kk ?_ ?_); · rfl) | (simp -implicitDefEqProofs (disch := first | omega | assumption) only [push_cast,simprocAttr,eqTop,eqShL,eqSh,K_seq,var_ok,hm,hsc,h1,hv,Option.getD_some,Option.isSome_some]) | ((with_reducible first | refine cB ?_ ?_ | refine oB ?_ ?_ | refine dB ?_ ?_) <;> intro _)
      all_goals simp [nodeF,varR,hv]
  · subst hk
    obtain ⟨a,rfl⟩ := len1 (ts := ts) (by simp [arityF] at ha; omega)
    refine call_pure (pf := p37) rfl rfl rfl rfl (by simp [PV.lowL,PV.low,strs_low,flds_low,scts_low,funs_low,h1,exs_low,tys_low]) (by simp [PV.low,PV.lowL,strs_low,flds_low,scts_low,funs_low,h1,exs_low,tys_low]) ?_ h
    show kQ E _ (endQ [⟨8,some (some 2)⟩,⟨9,none⟩] _) .norm { lvl := 0,tmps := mk 104 [(0,.agg m.c),(1,.vs fs (flds sc)),(2,.agg [.int .i64 5,.int .i64 o,.str nm,.int .i64 x,.vs fl (exs as)]),(3,.vs ft (tys [a]))],heap := [[none,none]],defers := [] }
    have pu84 : pureB E 84 = true := rfl
    repeat' first | ((with_reducible first | refine cS ?_ ?_ | refine oS ?_ ?_ | refine dS ?_ ?_) <;> intro _) | ((with_reducible refine kk ?_ ?_); · rfl) | (simp -implicitDefEqProofs (disch := first | omega | assumption) only [push_cast,simprocAttr,eqTop,eqShL,eqSh,K_seq,tys1,unary_ok]) | ((with_reducible first | refine cB ?_ ?_ | refine oB ?_ ?_ | refine dB ?_ ?_) <;> intro _)
    all_goals simp [nodeF]
  · subst hk
    obtain ⟨a,b,rfl⟩ := len2 (ts := ts) (by simp [arityF] at ha; omega)
    refine call_pure (pf := p37) rfl rfl rfl rfl (by simp [PV.lowL,PV.low,strs_low,flds_low,scts_low,funs_low,h1,exs_low,tys_low]) (by simp [PV.low,PV.lowL,strs_low,flds_low,scts_low,funs_low,h1,exs_low,tys_low]) ?_ h
    show kQ E _ (endQ [⟨8,some (some 2)⟩,⟨9,none⟩] _) .norm { lvl := 0,tmps := mk 104 [(0,.agg m.c),(1,.vs fs (flds sc)),(2,.agg [.int .i64 6,.int .i64 o,.str nm,.int .i64 x,.vs fl (exs as)]),(3,.vs ft (tys [a,b]))],heap := [[none,none]],defers := [] }
    have pu84 : pureB E 84 = true := rfl
    repeat' first | ((with_reducible first | refine cS ?_ ?_ | refine oS ?_ ?_ | refine dS ?_ ?_) <;> intro _) | ((with_reducible refine kk ?_ ?_); · rfl) | (simp -implicitDefEqProofs (disch := first | omega | assumption) only [push_cast,simprocAttr,eqTop,eqShL,eqSh,K_seq,tys2,binary_ok]) | ((with_reducible first | refine cB ?_ ?_ | refine oB ?_ ?_ | refine dB ?_ ?_) <;> intro _)
    all_goals simp [nodeF]
  · subst hk
    obtain ⟨a,rfl⟩ := len1 (ts := ts) (by simp [arityF] at ha; omega)
    refine call_pure (pf := p37) rfl rfl rfl rfl (by simp [PV.lowL,PV.low,strs_low,flds_low,scts_low,funs_low,h1,exs_low,tys_low]) (by simp [PV.low,PV.lowL,strs_low,flds_low,scts_low,funs_low,h1,exs_low,tys_low]) ?_ h
    show kQ E _ (endQ [⟨8,some (some 2)⟩,⟨9,none⟩] _) .norm { lvl := 0,tmps := mk 104 [(0,.agg m.c),(1,.vs fs (flds sc)),(2,.agg [.int .i64 8,.int .i64 o,.str nm,.int .i64 x,.vs fl (exs as)]),(3,.vs ft (tys [a]))],heap := [[none,none]],defers := [] }
    have pu84 : pureB E 84 = true := rfl
    repeat' first | ((with_reducible first | refine cS ?_ ?_ | refine oS ?_ ?_ | refine dS ?_ ?_) <;> intro _) | ((with_reducible refine kk ?_ ?_); · rfl) | (simp -implicitDefEqProofs (disch := first | omega | assumption) only [push_cast,simprocAttr,eqTop,eqShL,eqSh,K_seq,tys1,mem_ok,hm,h1]) | ((with_reducible first | refine cB ?_ ?_ | refine oB ?_ ?_ | refine dB ?_ ?_) <;> intro _)
    all_goals simp [nodeF]
  · subst hk
    obtain ⟨a,b,rfl⟩ := len2 (ts := ts) (by simp [arityF] at ha; omega)
    refine call_pure (pf := p37) rfl rfl rfl rfl (by simp [PV.lowL,PV.low,strs_low,flds_low,scts_low,funs_low,h1,exs_low,tys_low]) (by simp [PV.low,PV.lowL,strs_low,flds_low,scts_low,funs_low,h1,exs_low,tys_low]) ?_ h
    show kQ E _ (endQ [⟨8,some (some 2)⟩,⟨9,none⟩] _) .norm { lvl := 0,tmps := mk 104 [(0,.agg m.c),(1,.vs fs (flds sc)),(2,.agg [.int .i64 9,.int .i64 o,.str nm,.int .i64 x,.vs fl (exs as)]),(3,.vs ft (tys [a,b]))],heap := [[none,none]],defers := [] }
    have pu84 : pureB E 84 = true := rfl
    cases hv : isVc a.kind
    all_goals
      repeat' first | ((with_reducible first | refine cS ?_ ?_ | refine oS ?_ ?_ | refine dS ?_ ?_) <;> intro _) | ((with_reducible refine kk ?_ ?_); · rfl) | (simp -implicitDefEqProofs (disch := first | omega | assumption) only [push_cast,simprocAttr,K_seq,ty_eq,ty_eta,tys2,vc_ok,kind_ok,hv]) | ((with_reducible first | refine cB ?_ ?_ | refine oB ?_ ?_ | refine dB ?_ ?_) <;> intro _)
    all_goals first
      | (simp [nodeF,hv, *]; done)
      | (have hv2 : ¬ (isVc a.kind = true ∧ b = ⟨3,[]⟩) := by simp [hv]
         simp only [nodeF,List.getD_cons_zero,List.getD_cons_succ]
         simp only [if_neg hv2]
         simp)
  · subst hk
    refine call_pure (pf := p37) rfl rfl rfl rfl (by simp [PV.lowL,PV.low,strs_low,flds_low,scts_low,funs_low,h1,exs_low,tys_low]) (by simp [PV.low,PV.lowL,strs_low,flds_low,scts_low,funs_low,h1,exs_low,tys_low]) ?_ h
    show kQ E _ (endQ [⟨8,some (some 2)⟩,⟨9,none⟩] _) .norm { lvl := 0,tmps := mk 104 [(0,.agg m.c),(1,.vs fs (flds sc)),(2,.agg [.int .i64 7,.int .i64 o,.str nm,.int .i64 x,.vs fl (exs as)]),(3,.vs ft (tys ts))],heap := [[none,none]],defers := [] }
    have pu84 : pureB E 84 = true := rfl
    repeat' first | ((with_reducible first | refine cS ?_ ?_ | refine oS ?_ ?_ | refine dS ?_ ?_) <;> intro _) | ((with_reducible refine kk ?_ ?_); · rfl) | (simp -implicitDefEqProofs (disch := first | omega | assumption) only [push_cast,simprocAttr,eqTop,eqShL,eqSh,K_seq,call_ok,hm,hsc,hl,hb,h1,tys_low]) | ((with_reducible first | refine cB ?_ ?_ | refine oB ?_ ?_ | refine dB ?_ ?_) <;> intro _)
    all_goals simp [nodeF]
end Go.VI.S
