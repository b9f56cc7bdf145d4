/- Chapter 20: the reference's calls that take a resource. -/
import Derived.Test.YtefikcjiblkmgaaGreatDoorF20x
set_option maxRecDepth 100000
set_option linter.unusedSimpArgs false
set_option linter.unusedVariables false
set_option pp.deepTerms.threshold 4
set_option pp.deepTerms false
namespace Go.VI.S
open Go.VI
theorem len4 {ts : List Ty} (h : ts.length = 4) : ∃ a b c d,ts = [a,b,c,d] := by
  match ts,h with
  | [a,b,c,d],_ => exact ⟨a,b,c,d,rfl⟩
theorem tys4 {a b c d : Ty} : tys [a,b,c,d] = [.agg [.int .i64 a.kind,.str a.name],.agg [.int .i64 b.kind,.str b.name],.agg [.int .i64 c.kind,.str c.name],.agg [.int .i64 d.kind,.str d.name]] := rfl
theorem rar_sample : rarF [115,97,109,112,108,101] = 3 := by decide
theorem rar_fetch : rarF [102,101,116,99,104] = 4 := by decide
theorem rar_load : rarF [108,111,97,100] = 2 := by decide
theorem rar_ddx : rarF [100,100,120] = 1 := by decide
theorem rar_ddy : rarF [100,100,121] = 1 := by decide
set_option maxHeartbeats 4000000 in
theorem rr_sample (m : Mod) (hm : m.Ok) (fs : Fl) (sc : List Fld) (k o x : Int) (fl : Fl) (o' : Int) (nm' : Str) (x' : Int) (fl' : Fl) (r : List Ex) (ft : Fl) (ts : List Ty) (hz : ts.length = r.length + 1) (hb : ts.length ≤ 1048576) (h : Heap) :
    doCall E (callR E) 94 [.agg m.c,.vs fs (flds sc),.agg [.int .i64 k,.int .i64 o,.str [115,97,109,112,108,101],.int .i64 x,.vs fl (exs (.mk 4 o' nm' x' fl' [] :: r))],.vs ft (tys ts)] h = some (encR (if nm' ∈ m.ts then (if ts.length = 3 then typedF (decide (ts.getD 1 tz = ⟨5,[]⟩) && decide (ts.getD 2 tz = ⟨1,[]⟩)) ⟨7,[]⟩ else (tz,11)) else (tz,13)),h) := by
  have h1 := m.hm
  have g1 := hm.ts
  have g2 := hm.bs
  by_cases hmem : nm' ∈ m.ts
  · rw [if_pos hmem]
    by_cases hl : ts.length = 3
    · rw [if_pos hl]
      obtain ⟨a,b,c,rfl⟩ := len3 hl
      refine call_pure (pf := p94) rfl rfl rfl rfl (by simp [PV.lowL,PV.low,strs_low,flds_low,scts_low,funs_low,h1,exs_low,tys_low]) (by simp [PV.low,PV.lowL,strs_low,flds_low,scts_low,funs_low,h1,exs_low,tys_low]) ?_ h
      show kQ E _ (endQ [⟨8,some (some 2)⟩,⟨9,none⟩] _) .norm { lvl := 0,tmps := mk 167 [(0,.agg m.c),(1,.vs fs (flds sc)),(2,.agg [.int .i64 k,.int .i64 o,.str [115,97,109,112,108,101],.int .i64 x,.vs fl (exs (.mk 4 o' nm' x' fl' [] :: r))]),(3,.vs ft (tys [a,b,c]))],heap := [[none,none,none,none]],defers := [] }
      have pu45 : pureB E 45 = true := rfl
      have pu69 : pureB E 69 = true := rfl
      repeat' first | ((with_reducible first | refine cS ?_ ?_ | refine oS ?_ ?_ | refine dS ?_ ?_) <;> intro _) | ((with_reducible refine kk ?_ ?_); · rfl) | (simp -implicitDefEqProofs (disch := first | omega | assumption) only [push_cast,simprocAttr,K_seq,ty_eq,ty_eta,tys3,h1,tys_low,tys_len,exs1,Ex.c,g1,g2,listed_ok,of_ok,rar_ok,rar_sample,rar_fetch,rar_load,rar_ddx,rar_ddy,rwhen_ok,binS,take5,List.length_nil,l_beq,l_beq0,l_beq1,l_beq2,UInt8.reduceToNat]) | ((with_reducible first | refine cB ?_ ?_ | refine oB ?_ ?_ | refine dB ?_ ?_) <;> intro _)
      all_goals first
        | (simp [*]; done)
        | (subst_vars; simp_all; done)
        | trace_state
    · rw [if_neg hl]
      refine call_pure (pf := p94) rfl rfl rfl rfl (by simp [PV.lowL,PV.low,strs_low,flds_low,scts_low,funs_low,h1,exs_low,tys_low]) (by simp [PV.low,PV.lowL,strs_low,flds_low,scts_low,funs_low,h1,exs_low,tys_low]) ?_ h
      show kQ E _ (endQ [⟨8,some (some 2)⟩,⟨9,none⟩] _) .norm { lvl := 0,tmps := mk 167 [(0,.agg m.c),(1,.vs fs (flds sc)),(2,.agg [.int .i64 k,.int .i64 o,.str [115,97,109,112,108,101],.int .i64 x,.vs fl (exs (.mk 4 o' nm' x' fl' [] :: r))]),(3,.vs ft (tys ts))],heap := [[none,none,none,none]],defers := [] }
      have pu45 : pureB E 45 = true := rfl
      have pu69 : pureB E 69 = true := rfl
      repeat' first | ((with_reducible first | refine cS ?_ ?_ | refine oS ?_ ?_ | refine dS ?_ ?_) <;> intro _) | ((with_reducible refine kk ?_ ?_); · rfl) | (simp -implicitDefEqProofs (disch := first | omega | assumption) only [push_cast,simprocAttr,eqTop,eqShL,eqSh,K_seq,h1,tys_low,tys_len,exs1,Ex.c,g1,g2,listed_ok,of_ok,rar_ok,rar_sample,rar_fetch,rar_load,rar_ddx,rar_ddy,rwhen_ok,binS,take5,List.length_nil,l_beq,l_beq0,l_beq1,l_beq2,UInt8.reduceToNat]) | ((with_reducible first | refine cB ?_ ?_ | refine oB ?_ ?_ | refine dB ?_ ?_) <;> intro _)
      all_goals trace_state
  · rw [if_neg hmem]
    refine call_pure (pf := p94) rfl rfl rfl rfl (by simp [PV.lowL,PV.low,strs_low,flds_low,scts_low,funs_low,h1,exs_low,tys_low]) (by simp [PV.low,PV.lowL,strs_low,flds_low,scts_low,funs_low,h1,exs_low,tys_low]) ?_ h
    show kQ E _ (endQ [⟨8,some (some 2)⟩,⟨9,none⟩] _) .norm { lvl := 0,tmps := mk 167 [(0,.agg m.c),(1,.vs fs (flds sc)),(2,.agg [.int .i64 k,.int .i64 o,.str [115,97,109,112,108,101],.int .i64 x,.vs fl (exs (.mk 4 o' nm' x' fl' [] :: r))]),(3,.vs ft (tys ts))],heap := [[none,none,none,none]],defers := [] }
    have pu45 : pureB E 45 = true := rfl
    have pu69 : pureB E 69 = true := rfl
    repeat' first | ((with_reducible first | refine cS ?_ ?_ | refine oS ?_ ?_ | refine dS ?_ ?_) <;> intro _) | ((with_reducible refine kk ?_ ?_); · rfl) | (simp -implicitDefEqProofs (disch := first | omega | assumption) only [push_cast,simprocAttr,eqTop,eqShL,eqSh,K_seq,h1,tys_low,tys_len,exs1,Ex.c,g1,g2,listed_ok,of_ok,rar_ok,rar_sample,rar_fetch,rar_load,rar_ddx,rar_ddy,rwhen_ok,binS,take5,List.length_nil,l_beq,l_beq0,l_beq1,l_beq2,UInt8.reduceToNat]) | ((with_reducible first | refine cB ?_ ?_ | refine oB ?_ ?_ | refine dB ?_ ?_) <;> intro _)
    all_goals trace_state
set_option maxHeartbeats 4000000 in
theorem rr_fetch (m : Mod) (hm : m.Ok) (fs : Fl) (sc : List Fld) (k o x : Int) (fl : Fl) (o' : Int) (nm' : Str) (x' : Int) (fl' : Fl) (r : List Ex) (ft : Fl) (ts : List Ty) (hz : ts.length = r.length + 1) (hb : ts.length ≤ 1048576) (h : Heap) :
    doCall E (callR E) 94 [.agg m.c,.vs fs (flds sc),.agg [.int .i64 k,.int .i64 o,.str [102,101,116,99,104],.int .i64 x,.vs fl (exs (.mk 4 o' nm' x' fl' [] :: r))],.vs ft (tys ts)] h = some (encR (if nm' ∈ m.ts then (if ts.length = 4 then typedF (decide (ts.getD 1 tz = ⟨3,[]⟩) && (decide (ts.getD 2 tz = ⟨3,[]⟩) && decide (ts.getD 3 tz = ⟨3,[]⟩))) ⟨7,[]⟩ else (tz,11)) else (tz,13)),h) := by
  have h1 := m.hm
  have g1 := hm.ts
  have g2 := hm.bs
  by_cases hmem : nm' ∈ m.ts
  · rw [if_pos hmem]
    by_cases hl : ts.length = 4
    · rw [if_pos hl]
      obtain ⟨a,b,c,d,rfl⟩ := len4 hl
      refine call_pure (pf := p94) rfl rfl rfl rfl (by simp [PV.lowL,PV.low,strs_low,flds_low,scts_low,funs_low,h1,exs_low,tys_low]) (by simp [PV.low,PV.lowL,strs_low,flds_low,scts_low,funs_low,h1,exs_low,tys_low]) ?_ h
      show kQ E _ (endQ [⟨8,some (some 2)⟩,⟨9,none⟩] _) .norm { lvl := 0,tmps := mk 167 [(0,.agg m.c),(1,.vs fs (flds sc)),(2,.agg [.int .i64 k,.int .i64 o,.str [102,101,116,99,104],.int .i64 x,.vs fl (exs (.mk 4 o' nm' x' fl' [] :: r))]),(3,.vs ft (tys [a,b,c,d]))],heap := [[none,none,none,none]],defers := [] }
      have pu45 : pureB E 45 = true := rfl
      have pu69 : pureB E 69 = true := rfl
      repeat' first | ((with_reducible first | refine cS ?_ ?_ | refine oS ?_ ?_ | refine dS ?_ ?_) <;> intro _) | ((with_reducible refine kk ?_ ?_); · rfl) | (simp -implicitDefEqProofs (disch := first | omega | assumption) only [push_cast,simprocAttr,K_seq,ty_eq,ty_eta,tys4,h1,tys_low,tys_len,exs1,Ex.c,g1,g2,listed_ok,of_ok,rar_ok,rar_sample,rar_fetch,rar_load,rar_ddx,rar_ddy,rwhen_ok,binS,take5,List.length_nil,l_beq,l_beq0,l_beq1,l_beq2,UInt8.reduceToNat]) | ((with_reducible first | refine cB ?_ ?_ | refine oB ?_ ?_ | refine dB ?_ ?_) <;> intro _)
      all_goals first
        | (simp [*]; done)
        | (subst_vars; simp_all; done)
        | trace_state
    · rw [if_neg hl]
      refine call_pure (pf := p94) rfl rfl rfl rfl (by simp [PV.lowL,PV.low,strs_low,flds_low,scts_low,funs_low,h1,exs_low,tys_low]) (by simp [PV.low,PV.lowL,strs_low,flds_low,scts_low,funs_low,h1,exs_low,tys_low]) ?_ h
      show kQ E _ (endQ [⟨8,some (some 2)⟩,⟨9,none⟩] _) .norm { lvl := 0,tmps := mk 167 [(0,.agg m.c),(1,.vs fs (flds sc)),(2,.agg [.int .i64 k,.int .i64 o,.str [102,101,116,99,104],.int .i64 x,.vs fl (exs (.mk 4 o' nm' x' fl' [] :: r))]),(3,.vs ft (tys ts))],heap := [[none,none,none,none]],defers := [] }
      have pu45 : pureB E 45 = true := rfl
      have pu69 : pureB E 69 = true := rfl
      repeat' first | ((with_reducible first | refine cS ?_ ?_ | refine oS ?_ ?_ | refine dS ?_ ?_) <;> intro _) | ((with_reducible refine kk ?_ ?_); · rfl) | (simp -implicitDefEqProofs (disch := first | omega | assumption) only [push_cast,simprocAttr,eqTop,eqShL,eqSh,K_seq,h1,tys_low,tys_len,exs1,Ex.c,g1,g2,listed_ok,of_ok,rar_ok,rar_sample,rar_fetch,rar_load,rar_ddx,rar_ddy,rwhen_ok,binS,take5,List.length_nil,l_beq,l_beq0,l_beq1,l_beq2,UInt8.reduceToNat]) | ((with_reducible first | refine cB ?_ ?_ | refine oB ?_ ?_ | refine dB ?_ ?_) <;> intro _)
      all_goals trace_state
  · rw [if_neg hmem]
    refine call_pure (pf := p94) rfl rfl rfl rfl (by simp [PV.lowL,PV.low,strs_low,flds_low,scts_low,funs_low,h1,exs_low,tys_low]) (by simp [PV.low,PV.lowL,strs_low,flds_low,scts_low,funs_low,h1,exs_low,tys_low]) ?_ h
    show kQ E _ (endQ [⟨8,some (some 2)⟩,⟨9,none⟩] _) .norm { lvl := 0,tmps := mk 167 [(0,.agg m.c),(1,.vs fs (flds sc)),(2,.agg [.int .i64 k,.int .i64 o,.str [102,101,116,99,104],.int .i64 x,.vs fl (exs (.mk 4 o' nm' x' fl' [] :: r))]),(3,.vs ft (tys ts))],heap := [[none,none,none,none]],defers := [] }
    have pu45 : pureB E 45 = true := rfl
    have pu69 : pureB E 69 = true := rfl
    repeat' first | ((with_reducible first | refine cS ?_ ?_ | refine oS ?_ ?_ | refine dS ?_ ?_) <;> intro _) | ((with_reducible refine kk ?_ ?_); · rfl) | (simp -implicitDefEqProofs (disch := first | omega | assumption) only [push_cast,simprocAttr,eqTop,eqShL,eqSh,K_seq,h1,tys_low,tys_len,exs1,Ex.c,g1,g2,listed_ok,of_ok,rar_ok,rar_sample,rar_fetch,rar_load,rar_ddx,rar_ddy,rwhen_ok,binS,take5,List.length_nil,l_beq,l_beq0,l_beq1,l_beq2,UInt8.reduceToNat]) | ((with_reducible first | refine cB ?_ ?_ | refine oB ?_ ?_ | refine dB ?_ ?_) <;> intro _)
    all_goals trace_state
set_option maxHeartbeats 4000000 in
theorem rr_load (m : Mod) (hm : m.Ok) (fs : Fl) (sc : List Fld) (k o x : Int) (fl : Fl) (o' : Int) (nm' : Str) (x' : Int) (fl' : Fl) (r : List Ex) (ft : Fl) (ts : List Ty) (hz : ts.length = r.length + 1) (hb : ts.length ≤ 1048576) (h : Heap) :
    doCall E (callR E) 94 [.agg m.c,.vs fs (flds sc),.agg [.int .i64 k,.int .i64 o,.str [108,111,97,100],.int .i64 x,.vs fl (exs (.mk 4 o' nm' x' fl' [] :: r))],.vs ft (tys ts)] h = some (encR (if nm' ∈ m.bs then (if ts.length = 2 then typedF (decide (ts.getD 1 tz = ⟨3,[]⟩)) ⟨3,[]⟩ else (tz,11)) else (tz,13)),h) := by
  have h1 := m.hm
  have g1 := hm.ts
  have g2 := hm.bs
  by_cases hmem : nm' ∈ m.bs
  · rw [if_pos hmem]
    by_cases hl : ts.length = 2
    · rw [if_pos hl]
      obtain ⟨a,b,rfl⟩ := len2 hl
      refine call_pure (pf := p94) rfl rfl rfl rfl (by simp [PV.lowL,PV.low,strs_low,flds_low,scts_low,funs_low,h1,exs_low,tys_low]) (by simp [PV.low,PV.lowL,strs_low,flds_low,scts_low,funs_low,h1,exs_low,tys_low]) ?_ h
      show kQ E _ (endQ [⟨8,some (some 2)⟩,⟨9,none⟩] _) .norm { lvl := 0,tmps := mk 167 [(0,.agg m.c),(1,.vs fs (flds sc)),(2,.agg [.int .i64 k,.int .i64 o,.str [108,111,97,100],.int .i64 x,.vs fl (exs (.mk 4 o' nm' x' fl' [] :: r))]),(3,.vs ft (tys [a,b]))],heap := [[none,none,none,none]],defers := [] }
      have pu45 : pureB E 45 = true := rfl
      have pu69 : pureB E 69 = true := rfl
      repeat' first | ((with_reducible first | refine cS ?_ ?_ | refine oS ?_ ?_ | refine dS ?_ ?_) <;> intro _) | ((with_reducible refine kk ?_ ?_); · rfl) | (simp -implicitDefEqProofs (disch := first | omega | assumption) only [push_cast,simprocAttr,K_seq,ty_eq,ty_eta,tys2,h1,tys_low,tys_len,exs1,Ex.c,g1,g2,listed_ok,of_ok,rar_ok,rar_sample,rar_fetch,rar_load,rar_ddx,rar_ddy,rwhen_ok,binS,take5,List.length_nil,l_beq,l_beq0,l_beq1,l_beq2,UInt8.reduceToNat]) | ((with_reducible first | refine cB ?_ ?_ | refine oB ?_ ?_ | refine dB ?_ ?_) <;> intro _)
      all_goals first
        | (simp [*]; done)
        | (subst_vars; simp_all; done)
        | trace_state
    · rw [if_neg hl]
      refine call_pure (pf := p94) rfl rfl rfl rfl (by simp [PV.lowL,PV.low,strs_low,flds_low,scts_low,funs_low,h1,exs_low,tys_low]) (by simp [PV.low,PV.lowL,strs_low,flds_low,scts_low,funs_low,h1,exs_low,tys_low]) ?_ h
      show kQ E _ (endQ [⟨8,some (some 2)⟩,⟨9,none⟩] _) .norm { lvl := 0,tmps := mk 167 [(0,.agg m.c),(1,.vs fs (flds sc)),(2,.agg [.int .i64 k,.int .i64 o,.str [108,111,97,100],.int .i64 x,.vs fl (exs (.mk 4 o' nm' x' fl' [] :: r))]),(3,.vs ft (tys ts))],heap := [[none,none,none,none]],defers := [] }
      have pu45 : pureB E 45 = true := rfl
      have pu69 : pureB E 69 = true := rfl
      repeat' first | ((with_reducible first | refine cS ?_ ?_ | refine oS ?_ ?_ | refine dS ?_ ?_) <;> intro _) | ((with_reducible refine kk ?_ ?_); · rfl) | (simp -implicitDefEqProofs (disch := first | omega | assumption) only [push_cast,simprocAttr,eqTop,eqShL,eqSh,K_seq,h1,tys_low,tys_len,exs1,Ex.c,g1,g2,listed_ok,of_ok,rar_ok,rar_sample,rar_fetch,rar_load,rar_ddx,rar_ddy,rwhen_ok,binS,take5,List.length_nil,l_beq,l_beq0,l_beq1,l_beq2,UInt8.reduceToNat]) | ((with_reducible first | refine cB ?_ ?_ | refine oB ?_ ?_ | refine dB ?_ ?_) <;> intro _)
      all_goals trace_state
  · rw [if_neg hmem]
    refine call_pure (pf := p94) rfl rfl rfl rfl (by simp [PV.lowL,PV.low,strs_low,flds_low,scts_low,funs_low,h1,exs_low,tys_low]) (by simp [PV.low,PV.lowL,strs_low,flds_low,scts_low,funs_low,h1,exs_low,tys_low]) ?_ h
    show kQ E _ (endQ [⟨8,some (some 2)⟩,⟨9,none⟩] _) .norm { lvl := 0,tmps := mk 167 [(0,.agg m.c),(1,.vs fs (flds sc)),(2,.agg [.int .i64 k,.int .i64 o,.str [108,111,97,100],.int .i64 x,.vs fl (exs (.mk 4 o' nm' x' fl' [] :: r))]),(3,.vs ft (tys ts))],heap := [[none,none,none,none]],defers := [] }
    have pu45 : pureB E 45 = true := rfl
    have pu69 : pureB E 69 = true := rfl
    repeat' first | ((with_reducible first | refine cS ?_ ?_ | refine oS ?_ ?_ | refine dS ?_ ?_) <;> intro _) | ((with_reducible refine kk ?_ ?_); · rfl) | (simp -implicitDefEqProofs (disch := first | omega | assumption) only [push_cast,simprocAttr,eqTop,eqShL,eqSh,K_seq,h1,tys_low,tys_len,exs1,Ex.c,g1,g2,listed_ok,of_ok,rar_ok,rar_sample,rar_fetch,rar_load,rar_ddx,rar_ddy,rwhen_ok,binS,take5,List.length_nil,l_beq,l_beq0,l_beq1,l_beq2,UInt8.reduceToNat]) | ((with_reducible first | refine cB ?_ ?_ | refine oB ?_ ?_ | refine dB ?_ ?_) <;> intro _)
    all_goals trace_state
end Go.VI.S
