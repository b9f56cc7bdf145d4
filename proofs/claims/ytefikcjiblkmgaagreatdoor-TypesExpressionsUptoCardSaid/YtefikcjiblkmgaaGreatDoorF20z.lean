/- Chapter 20: the reference's derivatives. -/
import Derived.Test.YtefikcjiblkmgaaGreatDoorF20y
set_option maxRecDepth 100000
set_option linter.unusedSimpArgs false
set_option linter.unusedVariables false
set_option pp.deepTerms.threshold 4
set_option pp.deepTerms false
namespace Go.VI.S
open Go.VI
set_option maxHeartbeats 4000000 in
theorem rr_ddx (m : Mod) (hm : m.Ok) (fs : Fl) (sc : List Fld) (hsc : sc.length ≤ 1048576) (k o x : Int) (fl : Fl) (o' : Int) (nm' : Str) (x' : Int) (fl' : Fl) (r : List Ex) (ft : Fl) (ts : List Ty) (hz : ts.length = r.length + 1) (hb : ts.length ≤ 1048576) (h : Heap) :
    doCall E (callR E) 94 [.agg m.c,.vs fs (flds sc),.agg [.int .i64 k,.int .i64 o,.str [100,100,120],.int .i64 x,.vs fl (exs (.mk 4 o' nm' x' fl' [] :: r))],.vs ft (tys ts)] h = some (encR (if fdF m.ins nm' < 0 ∨ 0 ≤ lastI sc nm' then (tz,13) else if ts.length ≠ 1 then (tz,11) else if tyAt m.ins (fdF m.ins nm') ≠ ⟨1,[]⟩ ∧ veF (tyAt m.ins (fdF m.ins nm')) = false then (tz,12) else if m.stage ≠ 3 then (tz,10) else (tyAt m.ins (fdF m.ins nm'),0)),h) := by
  have h1 := m.hm
  have g3 := hm.ins
  have p1 := fdF_bd m.ins nm'
  have p2 := last_bd sc nm'
  by_cases hi : fdF m.ins nm' < 0
  · rw [if_pos (.inl hi)]
    refine call_pure (pf := p94) rfl rfl rfl rfl (by simp [PV.lowL,PV.low,strs_low,flds_low,scts_low,funs_low,h1,exs_low,tys_low]) (by simp [PV.low,PV.lowL,strs_low,flds_low,scts_low,funs_low,h1,exs_low,tys_low]) ?_ h
    show kQ E _ (endQ [⟨8,some (some 2)⟩,⟨9,none⟩] _) .norm { lvl := 0,tmps := mk 167 [(0,.agg m.c),(1,.vs fs (flds sc)),(2,.agg [.int .i64 k,.int .i64 o,.str [100,100,120],.int .i64 x,.vs fl (exs (.mk 4 o' nm' x' fl' [] :: r))]),(3,.vs ft (tys ts))],heap := [[none,none,none,none]],defers := [] }
    have pu45 : pureB E 45 = true := rfl
    have pu69 : pureB E 69 = true := rfl
    repeat' first | ((with_reducible first | refine cS ?_ ?_ | refine oS ?_ ?_ | refine dS ?_ ?_) <;> intro _) | ((with_reducible refine kk ?_ ?_); · rfl) | (simp -implicitDefEqProofs (disch := first | omega | assumption) only [push_cast,simprocAttr,eqTop,eqShL,eqSh,K_seq,h1,tys_low,tys_len,exs1,Ex.c,g3,hsc,rfidx_ok,rlast_ok,of_ok,rvec_ok,rar_ok,rar_ddx,rar_ddy,binS,take5,List.length_nil,l_beq,l_beq0,l_beq1,l_beq2,UInt8.reduceToNat]) | ((with_reducible first | refine cB ?_ ?_ | refine oB ?_ ?_ | refine dB ?_ ?_) <;> intro _)
    all_goals trace_state
  by_cases hj : 0 ≤ lastI sc nm'
  · rw [if_pos (.inr hj)]
    refine call_pure (pf := p94) rfl rfl rfl rfl (by simp [PV.lowL,PV.low,strs_low,flds_low,scts_low,funs_low,h1,exs_low,tys_low]) (by simp [PV.low,PV.lowL,strs_low,flds_low,scts_low,funs_low,h1,exs_low,tys_low]) ?_ h
    show kQ E _ (endQ [⟨8,some (some 2)⟩,⟨9,none⟩] _) .norm { lvl := 0,tmps := mk 167 [(0,.agg m.c),(1,.vs fs (flds sc)),(2,.agg [.int .i64 k,.int .i64 o,.str [100,100,120],.int .i64 x,.vs fl (exs (.mk 4 o' nm' x' fl' [] :: r))]),(3,.vs ft (tys ts))],heap := [[none,none,none,none]],defers := [] }
    have pu45 : pureB E 45 = true := rfl
    have pu69 : pureB E 69 = true := rfl
    repeat' first | ((with_reducible first | refine cS ?_ ?_ | refine oS ?_ ?_ | refine dS ?_ ?_) <;> intro _) | ((with_reducible refine kk ?_ ?_); · rfl) | (simp -implicitDefEqProofs (disch := first | omega | assumption) only [push_cast,simprocAttr,eqTop,eqShL,eqSh,K_seq,h1,tys_low,tys_len,exs1,Ex.c,g3,hsc,rfidx_ok,rlast_ok,of_ok,rvec_ok,rar_ok,rar_ddx,rar_ddy,binS,take5,List.length_nil,l_beq,l_beq0,l_beq1,l_beq2,UInt8.reduceToNat]) | ((with_reducible first | refine cB ?_ ?_ | refine oB ?_ ?_ | refine dB ?_ ?_) <;> intro _)
    all_goals trace_state
  rw [if_neg (by omega)]
  by_cases hl : ts.length = 1
  · rw [if_neg (by omega)]
    obtain ⟨fd,hg,_,hty⟩ := fd_get (l := m.ins) (nm := nm') (by omega)
    rw [hty]
    obtain ⟨a,rfl⟩ := len1 hl
    by_cases pt : fd.ty = ⟨1,[]⟩
    · have pt' := eq_true pt
      rw [if_neg (by simp [pt])]
      by_cases hs : m.stage = 3
      · rw [if_neg (by simp [hs])]
        refine call_pure (pf := p94) rfl rfl rfl rfl (by simp [PV.lowL,PV.low,strs_low,flds_low,scts_low,funs_low,h1,exs_low,tys_low]) (by simp [PV.low,PV.lowL,strs_low,flds_low,scts_low,funs_low,h1,exs_low,tys_low]) ?_ h
        show kQ E _ (endQ [⟨8,some (some 2)⟩,⟨9,none⟩] _) .norm { lvl := 0,tmps := mk 167 [(0,.agg m.c),(1,.vs fs (flds sc)),(2,.agg [.int .i64 k,.int .i64 o,.str [100,100,120],.int .i64 x,.vs fl (exs (.mk 4 o' nm' x' fl' [] :: r))]),(3,.vs ft (tys [a]))],heap := [[none,none,none,none]],defers := [] }
        have pu45 : pureB E 45 = true := rfl
        have pu69 : pureB E 69 = true := rfl
        repeat' first | ((with_reducible first | refine cS ?_ ?_ | refine oS ?_ ?_ | refine dS ?_ ?_) <;> intro _) | ((with_reducible refine kk ?_ ?_); · rfl) | (simp -implicitDefEqProofs (disch := first | omega | assumption) only [push_cast,simprocAttr,K_seq,ty_eq,ty_eta,pt',tys1,hg,hs,h1,tys_low,tys_len,exs1,Ex.c,g3,hsc,rfidx_ok,rlast_ok,of_ok,rvec_ok,rar_ok,rar_ddx,rar_ddy,binS,take5,List.length_nil,l_beq,l_beq0,l_beq1,l_beq2,UInt8.reduceToNat]) | ((with_reducible first | refine cB ?_ ?_ | refine oB ?_ ?_ | refine dB ?_ ?_) <;> intro _)
        all_goals trace_state
      · rw [if_pos hs]
        refine call_pure (pf := p94) rfl rfl rfl rfl (by simp [PV.lowL,PV.low,strs_low,flds_low,scts_low,funs_low,h1,exs_low,tys_low]) (by simp [PV.low,PV.lowL,strs_low,flds_low,scts_low,funs_low,h1,exs_low,tys_low]) ?_ h
        show kQ E _ (endQ [⟨8,some (some 2)⟩,⟨9,none⟩] _) .norm { lvl := 0,tmps := mk 167 [(0,.agg m.c),(1,.vs fs (flds sc)),(2,.agg [.int .i64 k,.int .i64 o,.str [100,100,120],.int .i64 x,.vs fl (exs (.mk 4 o' nm' x' fl' [] :: r))]),(3,.vs ft (tys [a]))],heap := [[none,none,none,none]],defers := [] }
        have pu45 : pureB E 45 = true := rfl
        have pu69 : pureB E 69 = true := rfl
        repeat' first | ((with_reducible first | refine cS ?_ ?_ | refine oS ?_ ?_ | refine dS ?_ ?_) <;> intro _) | ((with_reducible refine kk ?_ ?_); · rfl) | (simp -implicitDefEqProofs (disch := first | omega | assumption) only [push_cast,simprocAttr,K_seq,ty_eq,ty_eta,pt',tys1,hg,hs,h1,tys_low,tys_len,exs1,Ex.c,g3,hsc,rfidx_ok,rlast_ok,of_ok,rvec_ok,rar_ok,rar_ddx,rar_ddy,binS,take5,List.length_nil,l_beq,l_beq0,l_beq1,l_beq2,UInt8.reduceToNat]) | ((with_reducible first | refine cB ?_ ?_ | refine oB ?_ ?_ | refine dB ?_ ?_) <;> intro _)
        all_goals trace_state
    · have pt' := eq_false pt
      cases hv : veF fd.ty
      · rw [if_pos ⟨pt,rfl⟩]
        refine call_pure (pf := p94) rfl rfl rfl rfl (by simp [PV.lowL,PV.low,strs_low,flds_low,scts_low,funs_low,h1,exs_low,tys_low]) (by simp [PV.low,PV.lowL,strs_low,flds_low,scts_low,funs_low,h1,exs_low,tys_low]) ?_ h
        show kQ E _ (endQ [⟨8,some (some 2)⟩,⟨9,none⟩] _) .norm { lvl := 0,tmps := mk 167 [(0,.agg m.c),(1,.vs fs (flds sc)),(2,.agg [.int .i64 k,.int .i64 o,.str [100,100,120],.int .i64 x,.vs fl (exs (.mk 4 o' nm' x' fl' [] :: r))]),(3,.vs ft (tys [a]))],heap := [[none,none,none,none]],defers := [] }
        have pu45 : pureB E 45 = true := rfl
        have pu69 : pureB E 69 = true := rfl
        repeat' first | ((with_reducible first | refine cS ?_ ?_ | refine oS ?_ ?_ | refine dS ?_ ?_) <;> intro _) | ((with_reducible refine kk ?_ ?_); · rfl) | (simp -implicitDefEqProofs (disch := first | omega | assumption) only [push_cast,simprocAttr,K_seq,ty_eq,ty_eta,pt',hv,tys1,hg,h1,tys_low,tys_len,exs1,Ex.c,g3,hsc,rfidx_ok,rlast_ok,of_ok,rvec_ok,rar_ok,rar_ddx,rar_ddy,binS,take5,List.length_nil,l_beq,l_beq0,l_beq1,l_beq2,UInt8.reduceToNat]) | ((with_reducible first | refine cB ?_ ?_ | refine oB ?_ ?_ | refine dB ?_ ?_) <;> intro _)
        all_goals trace_state
      · rw [if_neg (by simp)]
        by_cases hs : m.stage = 3
        · rw [if_neg (by simp [hs])]
          refine call_pure (pf := p94) rfl rfl rfl rfl (by simp [PV.lowL,PV.low,strs_low,flds_low,scts_low,funs_low,h1,exs_low,tys_low]) (by simp [PV.low,PV.lowL,strs_low,flds_low,scts_low,funs_low,h1,exs_low,tys_low]) ?_ h
          show kQ E _ (endQ [⟨8,some (some 2)⟩,⟨9,none⟩] _) .norm { lvl := 0,tmps := mk 167 [(0,.agg m.c),(1,.vs fs (flds sc)),(2,.agg [.int .i64 k,.int .i64 o,.str [100,100,120],.int .i64 x,.vs fl (exs (.mk 4 o' nm' x' fl' [] :: r))]),(3,.vs ft (tys [a]))],heap := [[none,none,none,none]],defers := [] }
          have pu45 : pureB E 45 = true := rfl
          have pu69 : pureB E 69 = true := rfl
          repeat' first | ((with_reducible first | refine cS ?_ ?_ | refine oS ?_ ?_ | refine dS ?_ ?_) <;> intro _) | ((with_reducible refine kk ?_ ?_); · rfl) | (simp -implicitDefEqProofs (disch := first | omega | assumption) only [push_cast,simprocAttr,K_seq,ty_eq,ty_eta,pt',hv,tys1,hg,hs,h1,tys_low,tys_len,exs1,Ex.c,g3,hsc,rfidx_ok,rlast_ok,of_ok,rvec_ok,rar_ok,rar_ddx,rar_ddy,binS,take5,List.length_nil,l_beq,l_beq0,l_beq1,l_beq2,UInt8.reduceToNat]) | ((with_reducible first | refine cB ?_ ?_ | refine oB ?_ ?_ | refine dB ?_ ?_) <;> intro _)
          all_goals trace_state
        · rw [if_pos hs]
          refine call_pure (pf := p94) rfl rfl rfl rfl (by simp [PV.lowL,PV.low,strs_low,flds_low,scts_low,funs_low,h1,exs_low,tys_low]) (by simp [PV.low,PV.lowL,strs_low,flds_low,scts_low,funs_low,h1,exs_low,tys_low]) ?_ h
          show kQ E _ (endQ [⟨8,some (some 2)⟩,⟨9,none⟩] _) .norm { lvl := 0,tmps := mk 167 [(0,.agg m.c),(1,.vs fs (flds sc)),(2,.agg [.int .i64 k,.int .i64 o,.str [100,100,120],.int .i64 x,.vs fl (exs (.mk 4 o' nm' x' fl' [] :: r))]),(3,.vs ft (tys [a]))],heap := [[none,none,none,none]],defers := [] }
          have pu45 : pureB E 45 = true := rfl
          have pu69 : pureB E 69 = true := rfl
          repeat' first | ((with_reducible first | refine cS ?_ ?_ | refine oS ?_ ?_ | refine dS ?_ ?_) <;> intro _) | ((with_reducible refine kk ?_ ?_); · rfl) | (simp -implicitDefEqProofs (disch := first | omega | assumption) only [push_cast,simprocAttr,K_seq,ty_eq,ty_eta,pt',hv,tys1,hg,hs,h1,tys_low,tys_len,exs1,Ex.c,g3,hsc,rfidx_ok,rlast_ok,of_ok,rvec_ok,rar_ok,rar_ddx,rar_ddy,binS,take5,List.length_nil,l_beq,l_beq0,l_beq1,l_beq2,UInt8.reduceToNat]) | ((with_reducible first | refine cB ?_ ?_ | refine oB ?_ ?_ | refine dB ?_ ?_) <;> intro _)
          all_goals trace_state
  · rw [if_pos hl]
    refine call_pure (pf := p94) rfl rfl rfl rfl (by simp [PV.lowL,PV.low,strs_low,flds_low,scts_low,funs_low,h1,exs_low,tys_low]) (by simp [PV.low,PV.lowL,strs_low,flds_low,scts_low,funs_low,h1,exs_low,tys_low]) ?_ h
    show kQ E _ (endQ [⟨8,some (some 2)⟩,⟨9,none⟩] _) .norm { lvl := 0,tmps := mk 167 [(0,.agg m.c),(1,.vs fs (flds sc)),(2,.agg [.int .i64 k,.int .i64 o,.str [100,100,120],.int .i64 x,.vs fl (exs (.mk 4 o' nm' x' fl' [] :: r))]),(3,.vs ft (tys ts))],heap := [[none,none,none,none]],defers := [] }
    have pu45 : pureB E 45 = true := rfl
    have pu69 : pureB E 69 = true := rfl
    repeat' first | ((with_reducible first | refine cS ?_ ?_ | refine oS ?_ ?_ | refine dS ?_ ?_) <;> intro _) | ((with_reducible refine kk ?_ ?_); · rfl) | (simp -implicitDefEqProofs (disch := first | omega | assumption) only [push_cast,simprocAttr,eqTop,eqShL,eqSh,K_seq,h1,tys_low,tys_len,exs1,Ex.c,g3,hsc,rfidx_ok,rlast_ok,of_ok,rvec_ok,rar_ok,rar_ddx,rar_ddy,binS,take5,List.length_nil,l_beq,l_beq0,l_beq1,l_beq2,UInt8.reduceToNat]) | ((with_reducible first | refine cB ?_ ?_ | refine oB ?_ ?_ | refine dB ?_ ?_) <;> intro _)
    all_goals trace_state
set_option maxHeartbeats 4000000 in
theorem rr_ddy (m : Mod) (hm : m.Ok) (fs : Fl) (sc : List Fld) (hsc : sc.length ≤ 1048576) (k o x : Int) (fl : Fl) (o' : Int) (nm' : Str) (x' : Int) (fl' : Fl) (r : List Ex) (ft : Fl) (ts : List Ty) (hz : ts.length = r.length + 1) (hb : ts.length ≤ 1048576) (h : Heap) :
    doCall E (callR E) 94 [.agg m.c,.vs fs (flds sc),.agg [.int .i64 k,.int .i64 o,.str [100,100,121],.int .i64 x,.vs fl (exs (.mk 4 o' nm' x' fl' [] :: r))],.vs ft (tys ts)] h = some (encR (if fdF m.ins nm' < 0 ∨ 0 ≤ lastI sc nm' then (tz,13) else if ts.length ≠ 1 then (tz,11) else if tyAt m.ins (fdF m.ins nm') ≠ ⟨1,[]⟩ ∧ veF (tyAt m.ins (fdF m.ins nm')) = false then (tz,12) else if m.stage ≠ 3 then (tz,10) else (tyAt m.ins (fdF m.ins nm'),0)),h) := by
  have h1 := m.hm
  have g3 := hm.ins
  have p1 := fdF_bd m.ins nm'
  have p2 := last_bd sc nm'
  by_cases hi : fdF m.ins nm' < 0
  · rw [if_pos (.inl hi)]
    refine call_pure (pf := p94) rfl rfl rfl rfl (by simp [PV.lowL,PV.low,strs_low,flds_low,scts_low,funs_low,h1,exs_low,tys_low]) (by simp [PV.low,PV.lowL,strs_low,flds_low,scts_low,funs_low,h1,exs_low,tys_low]) ?_ h
    show kQ E _ (endQ [⟨8,some (some 2)⟩,⟨9,none⟩] _) .norm { lvl := 0,tmps := mk 167 [(0,.agg m.c),(1,.vs fs (flds sc)),(2,.agg [.int .i64 k,.int .i64 o,.str [100,100,121],.int .i64 x,.vs fl (exs (.mk 4 o' nm' x' fl' [] :: r))]),(3,.vs ft (tys ts))],heap := [[none,none,none,none]],defers := [] }
    have pu45 : pureB E 45 = true := rfl
    have pu69 : pureB E 69 = true := rfl
    repeat' first | ((with_reducible first | refine cS ?_ ?_ | refine oS ?_ ?_ | refine dS ?_ ?_) <;> intro _) | ((with_reducible refine kk ?_ ?_); · rfl) | (simp -implicitDefEqProofs (disch := first | omega | assumption) only [push_cast,simprocAttr,eqTop,eqShL,eqSh,K_seq,h1,tys_low,tys_len,exs1,Ex.c,g3,hsc,rfidx_ok,rlast_ok,of_ok,rvec_ok,rar_ok,rar_ddx,rar_ddy,binS,take5,List.length_nil,l_beq,l_beq0,l_beq1,l_beq2,UInt8.reduceToNat]) | ((with_reducible first | refine cB ?_ ?_ | refine oB ?_ ?_ | refine dB ?_ ?_) <;> intro _)
    all_goals trace_state
  by_cases hj : 0 ≤ lastI sc nm'
  · rw [if_pos (.inr hj)]
    refine call_pure (pf := p94) rfl rfl rfl rfl (by simp [PV.lowL,PV.low,strs_low,flds_low,scts_low,funs_low,h1,exs_low,tys_low]) (by simp [PV.low,PV.lowL,strs_low,flds_low,scts_low,funs_low,h1,exs_low,tys_low]) ?_ h
    show kQ E _ (endQ [⟨8,some (some 2)⟩,⟨9,none⟩] _) .norm { lvl := 0,tmps := mk 167 [(0,.agg m.c),(1,.vs fs (flds sc)),(2,.agg [.int .i64 k,.int .i64 o,.str [100,100,121],.int .i64 x,.vs fl (exs (.mk 4 o' nm' x' fl' [] :: r))]),(3,.vs ft (tys ts))],heap := [[none,none,none,none]],defers := [] }
    have pu45 : pureB E 45 = true := rfl
    have pu69 : pureB E 69 = true := rfl
    repeat' first | ((with_reducible first | refine cS ?_ ?_ | refine oS ?_ ?_ | refine dS ?_ ?_) <;> intro _) | ((with_reducible refine kk ?_ ?_); · rfl) | (simp -implicitDefEqProofs (disch := first | omega | assumption) only [push_cast,simprocAttr,eqTop,eqShL,eqSh,K_seq,h1,tys_low,tys_len,exs1,Ex.c,g3,hsc,rfidx_ok,rlast_ok,of_ok,rvec_ok,rar_ok,rar_ddx,rar_ddy,binS,take5,List.length_nil,l_beq,l_beq0,l_beq1,l_beq2,UInt8.reduceToNat]) | ((with_reducible first | refine cB ?_ ?_ | refine oB ?_ ?_ | refine dB ?_ ?_) <;> intro _)
    all_goals trace_state
  rw [if_neg (by omega)]
  by_cases hl : ts.length = 1
  · rw [if_neg (by omega)]
    obtain ⟨fd,hg,_,hty⟩ := fd_get (l := m.ins) (nm := nm') (by omega)
    rw [hty]
    obtain ⟨a,rfl⟩ := len1 hl
    by_cases pt : fd.ty = ⟨1,[]⟩
    · have pt' := eq_true pt
      rw [if_neg (by simp [pt])]
      by_cases hs : m.stage = 3
      · rw [if_neg (by simp [hs])]
        refine call_pure (pf := p94) rfl rfl rfl rfl (by simp [PV.lowL,PV.low,strs_low,flds_low,scts_low,funs_low,h1,exs_low,tys_low]) (by simp [PV.low,PV.lowL,strs_low,flds_low,scts_low,funs_low,h1,exs_low,tys_low]) ?_ h
        show kQ E _ (endQ [⟨8,some (some 2)⟩,⟨9,none⟩] _) .norm { lvl := 0,tmps := mk 167 [(0,.agg m.c),(1,.vs fs (flds sc)),(2,.agg [.int .i64 k,.int .i64 o,.str [100,100,121],.int .i64 x,.vs fl (exs (.mk 4 o' nm' x' fl' [] :: r))]),(3,.vs ft (tys [a]))],heap := [[none,none,none,none]],defers := [] }
        have pu45 : pureB E 45 = true := rfl
        have pu69 : pureB E 69 = true := rfl
        repeat' first | ((with_reducible first | refine cS ?_ ?_ | refine oS ?_ ?_ | refine dS ?_ ?_) <;> intro _) | ((with_reducible refine kk ?_ ?_); · rfl) | (simp -implicitDefEqProofs (disch := first | omega | assumption) only [push_cast,simprocAttr,K_seq,ty_eq,ty_eta,pt',tys1,hg,hs,h1,tys_low,tys_len,exs1,Ex.c,g3,hsc,rfidx_ok,rlast_ok,of_ok,rvec_ok,rar_ok,rar_ddx,rar_ddy,binS,take5,List.length_nil,l_beq,l_beq0,l_beq1,l_beq2,UInt8.reduceToNat]) | ((with_reducible first | refine cB ?_ ?_ | refine oB ?_ ?_ | refine dB ?_ ?_) <;> intro _)
        all_goals trace_state
      · rw [if_pos hs]
        refine call_pure (pf := p94) rfl rfl rfl rfl (by simp [PV.lowL,PV.low,strs_low,flds_low,scts_low,funs_low,h1,exs_low,tys_low]) (by simp [PV.low,PV.lowL,strs_low,flds_low,scts_low,funs_low,h1,exs_low,tys_low]) ?_ h
        show kQ E _ (endQ [⟨8,some (some 2)⟩,⟨9,none⟩] _) .norm { lvl := 0,tmps := mk 167 [(0,.agg m.c),(1,.vs fs (flds sc)),(2,.agg [.int .i64 k,.int .i64 o,.str [100,100,121],.int .i64 x,.vs fl (exs (.mk 4 o' nm' x' fl' [] :: r))]),(3,.vs ft (tys [a]))],heap := [[none,none,none,none]],defers := [] }
        have pu45 : pureB E 45 = true := rfl
        have pu69 : pureB E 69 = true := rfl
        repeat' first | ((with_reducible first | refine cS ?_ ?_ | refine oS ?_ ?_ | refine dS ?_ ?_) <;> intro _) | ((with_reducible refine kk ?_ ?_); · rfl) | (simp -implicitDefEqProofs (disch := first | omega | assumption) only [push_cast,simprocAttr,K_seq,ty_eq,ty_eta,pt',tys1,hg,hs,h1,tys_low,tys_len,exs1,Ex.c,g3,hsc,rfidx_ok,rlast_ok,of_ok,rvec_ok,rar_ok,rar_ddx,rar_ddy,binS,take5,List.length_nil,l_beq,l_beq0,l_beq1,l_beq2,UInt8.reduceToNat]) | ((with_reducible first | refine cB ?_ ?_ | refine oB ?_ ?_ | refine dB ?_ ?_) <;> intro _)
        all_goals trace_state
    · have pt' := eq_false pt
      cases hv : veF fd.ty
      · rw [if_pos ⟨pt,rfl⟩]
        refine call_pure (pf := p94) rfl rfl rfl rfl (by simp [PV.lowL,PV.low,strs_low,flds_low,scts_low,funs_low,h1,exs_low,tys_low]) (by simp [PV.low,PV.lowL,strs_low,flds_low,scts_low,funs_low,h1,exs_low,tys_low]) ?_ h
        show kQ E _ (endQ [⟨8,some (some 2)⟩,⟨9,none⟩] _) .norm { lvl := 0,tmps := mk 167 [(0,.agg m.c),(1,.vs fs (flds sc)),(2,.agg [.int .i64 k,.int .i64 o,.str [100,100,121],.int .i64 x,.vs fl (exs (.mk 4 o' nm' x' fl' [] :: r))]),(3,.vs ft (tys [a]))],heap := [[none,none,none,none]],defers := [] }
        have pu45 : pureB E 45 = true := rfl
        have pu69 : pureB E 69 = true := rfl
        repeat' first | ((with_reducible first | refine cS ?_ ?_ | refine oS ?_ ?_ | refine dS ?_ ?_) <;> intro _) | ((with_reducible refine kk ?_ ?_); · rfl) | (simp -implicitDefEqProofs (disch := first | omega | assumption) only [push_cast,simprocAttr,K_seq,ty_eq,ty_eta,pt',hv,tys1,hg,h1,tys_low,tys_len,exs1,Ex.c,g3,hsc,rfidx_ok,rlast_ok,of_ok,rvec_ok,rar_ok,rar_ddx,rar_ddy,binS,take5,List.length_nil,l_beq,l_beq0,l_beq1,l_beq2,UInt8.reduceToNat]) | ((with_reducible first | refine cB ?_ ?_ | refine oB ?_ ?_ | refine dB ?_ ?_) <;> intro _)
        all_goals trace_state
      · rw [if_neg (by simp)]
        by_cases hs : m.stage = 3
        · rw [if_neg (by simp [hs])]
          refine call_pure (pf := p94) rfl rfl rfl rfl (by simp [PV.lowL,PV.low,strs_low,flds_low,scts_low,funs_low,h1,exs_low,tys_low]) (by simp [PV.low,PV.lowL,strs_low,flds_low,scts_low,funs_low,h1,exs_low,tys_low]) ?_ h
          show kQ E _ (endQ [⟨8,some (some 2)⟩,⟨9,none⟩] _) .norm { lvl := 0,tmps := mk 167 [(0,.agg m.c),(1,.vs fs (flds sc)),(2,.agg [.int .i64 k,.int .i64 o,.str [100,100,121],.int .i64 x,.vs fl (exs (.mk 4 o' nm' x' fl' [] :: r))]),(3,.vs ft (tys [a]))],heap := [[none,none,none,none]],defers := [] }
          have pu45 : pureB E 45 = true := rfl
          have pu69 : pureB E 69 = true := rfl
          repeat' first | ((with_reducible first | refine cS ?_ ?_ | refine oS ?_ ?_ | refine dS ?_ ?_) <;> intro _) | ((with_reducible refine kk ?_ ?_); · rfl) | (simp -implicitDefEqProofs (disch := first | omega | assumption) only [push_cast,simprocAttr,K_seq,ty_eq,ty_eta,pt',hv,tys1,hg,hs,h1,tys_low,tys_len,exs1,Ex.c,g3,hsc,rfidx_ok,rlast_ok,of_ok,rvec_ok,rar_ok,rar_ddx,rar_ddy,binS,take5,List.length_nil,l_beq,l_beq0,l_beq1,l_beq2,UInt8.reduceToNat]) | ((with_reducible first | refine cB ?_ ?_ | refine oB ?_ ?_ | refine dB ?_ ?_) <;> intro _)
          all_goals trace_state
        · rw [if_pos hs]
          refine call_pure (pf := p94) rfl rfl rfl rfl (by simp [PV.lowL,PV.low,strs_low,flds_low,scts_low,funs_low,h1,exs_low,tys_low]) (by simp [PV.low,PV.lowL,strs_low,flds_low,scts_low,funs_low,h1,exs_low,tys_low]) ?_ h
          show kQ E _ (endQ [⟨8,some (some 2)⟩,⟨9,none⟩] _) .norm { lvl := 0,tmps := mk 167 [(0,.agg m.c),(1,.vs fs (flds sc)),(2,.agg [.int .i64 k,.int .i64 o,.str [100,100,121],.int .i64 x,.vs fl (exs (.mk 4 o' nm' x' fl' [] :: r))]),(3,.vs ft (tys [a]))],heap := [[none,none,none,none]],defers := [] }
          have pu45 : pureB E 45 = true := rfl
          have pu69 : pureB E 69 = true := rfl
          repeat' first | ((with_reducible first | refine cS ?_ ?_ | refine oS ?_ ?_ | refine dS ?_ ?_) <;> intro _) | ((with_reducible refine kk ?_ ?_); · rfl) | (simp -implicitDefEqProofs (disch := first | omega | assumption) only [push_cast,simprocAttr,K_seq,ty_eq,ty_eta,pt',hv,tys1,hg,hs,h1,tys_low,tys_len,exs1,Ex.c,g3,hsc,rfidx_ok,rlast_ok,of_ok,rvec_ok,rar_ok,rar_ddx,rar_ddy,binS,take5,List.length_nil,l_beq,l_beq0,l_beq1,l_beq2,UInt8.reduceToNat]) | ((with_reducible first | refine cB ?_ ?_ | refine oB ?_ ?_ | refine dB ?_ ?_) <;> intro _)
          all_goals trace_state
  · rw [if_pos hl]
    refine call_pure (pf := p94) rfl rfl rfl rfl (by simp [PV.lowL,PV.low,strs_low,flds_low,scts_low,funs_low,h1,exs_low,tys_low]) (by simp [PV.low,PV.lowL,strs_low,flds_low,scts_low,funs_low,h1,exs_low,tys_low]) ?_ h
    show kQ E _ (endQ [⟨8,some (some 2)⟩,⟨9,none⟩] _) .norm { lvl := 0,tmps := mk 167 [(0,.agg m.c),(1,.vs fs (flds sc)),(2,.agg [.int .i64 k,.int .i64 o,.str [100,100,121],.int .i64 x,.vs fl (exs (.mk 4 o' nm' x' fl' [] :: r))]),(3,.vs ft (tys ts))],heap := [[none,none,none,none]],defers := [] }
    have pu45 : pureB E 45 = true := rfl
    have pu69 : pureB E 69 = true := rfl
    repeat' first | ((with_reducible first | refine cS ?_ ?_ | refine oS ?_ ?_ | refine dS ?_ ?_) <;> intro _) | ((with_reducible refine kk ?_ ?_); · rfl) | (simp -implicitDefEqProofs (disch := first | omega | assumption) only [push_cast,simprocAttr,eqTop,eqShL,eqSh,K_seq,h1,tys_low,tys_len,exs1,Ex.c,g3,hsc,rfidx_ok,rlast_ok,of_ok,rvec_ok,rar_ok,rar_ddx,rar_ddy,binS,take5,List.length_nil,l_beq,l_beq0,l_beq1,l_beq2,UInt8.reduceToNat]) | ((with_reducible first | refine cB ?_ ?_ | refine oB ?_ ?_ | refine dB ?_ ?_) <;> intro _)
    all_goals trace_state
end Go.VI.S
