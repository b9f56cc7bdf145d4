/- Chapter 20: the reference's calls that take a resource, all. -/
import Derived.Test.YtefikcjiblkmgaaGreatDoorF20z
set_option maxRecDepth 100000
set_option linter.unusedSimpArgs false
set_option linter.unusedVariables false
set_option pp.deepTerms.threshold 4
set_option pp.deepTerms false
namespace Go.VI.S
open Go.VI
theorem sidx_not {l : List Str} {nm : Str} : (sidxF l nm < 0) = (nm ∉ l) := by
  have := @sidx_mem l nm
  rw [← this]
  simp
theorem last_fd {l : List Fld} {nm : Str} : (0 ≤ lastI l nm) = (0 ≤ fdF l nm) := by
  have a := idxG_mem (fun s : Fld => decide (s.name = nm)) l 0 (by omega)
  unfold fdF idxF
  rw [eq_iff_iff,a]
  rcases last_spec l nm with ⟨h1,h2⟩ | ⟨f,h0,h1,h2⟩
  · rw [h1]
    constructor
    · intro h; omega
    · rintro ⟨x,hx,hp⟩
      exfalso
      have := List.find?_eq_none.1 h2 x (List.mem_reverse.2 hx)
      simp at this hp
      exact this hp
  · constructor
    · intro _
      refine ⟨f,List.mem_of_getElem? h1, ?_⟩
      have := List.find?_some h2
      simpa using this
    · intro _; exact h0
theorem tyAt_cl {l : List Fld} (h : ∀ f ∈ l,f.ty.Cl) (i : Int) : (tyAt l i).Cl := by
  unfold tyAt
  cases hi : l[i.toNat]? with
  | none => intro _; rfl
  | some f => exact h f (List.mem_of_getElem? hi)
set_option maxHeartbeats 4000000 in
theorem rres_bad (m : Mod) (hm : m.Ok) (fs : Fl) (sc : List Fld) (k o x : Int) (nm : Str) (hn : nm ∈ resNames) (fl : Fl) (k' o' : Int) (nm' : Str) (x' : Int) (fl' : Fl) (as' r : List Ex) (hq : ¬ (k' = 4 ∧ as'.length = 0)) (ft : Fl) (ts : List Ty) (hz : ts.length = r.length + 1) (hb : ts.length ≤ 1048576) (h : Heap) :
    doCall E (callR E) 94 [.agg m.c,.vs fs (flds sc),.agg [.int .i64 k,.int .i64 o,.str nm,.int .i64 x,.vs fl (exs (.mk k' o' nm' x' fl' as' :: r))],.vs ft (tys ts)] h = some (encR (tz,13),h) := by
  have h1 := m.hm
  simp only [resNames,List.mem_cons,List.not_mem_nil,or_false] at hn
  by_cases hk : k' = 4
  · have ha : ¬ as'.length = 0 := fun h => hq ⟨hk,h⟩
    rcases hn with hn | hn | hn | hn | hn
    all_goals subst hn
    · skip
      refine call_pure (pf := p94) rfl rfl rfl rfl (by simp [PV.lowL,PV.low,strs_low,flds_low,scts_low,funs_low,h1,exs_low,tys_low]) (by simp [PV.low,PV.lowL,strs_low,flds_low,scts_low,funs_low,h1,exs_low,tys_low]) ?_ h
      show kQ E _ (endQ [⟨8,some (some 2)⟩,⟨9,none⟩] _) .norm { lvl := 0,tmps := mk 167 [(0,.agg m.c),(1,.vs fs (flds sc)),(2,.agg [.int .i64 k,.int .i64 o,.str [115,97,109,112,108,101],.int .i64 x,.vs fl (exs (.mk k' o' nm' x' fl' as' :: r))]),(3,.vs ft (tys ts))],heap := [[none,none,none,none]],defers := [] }
      have pu45 : pureB E 45 = true := rfl
      have pu69 : pureB E 69 = true := rfl
      repeat' first | ((with_reducible first | refine cS ?_ ?_ | refine oS ?_ ?_ | refine dS ?_ ?_) <;> intro _) | ((with_reducible refine kk ?_ ?_); · rfl) | (simp -implicitDefEqProofs (disch := first | omega | assumption) only [push_cast,simprocAttr,eqTop,eqShL,eqSh,K_seq,hk,ha,h1,tys_low,tys_len,exs1,Ex.c,binS,take5,List.length_nil,l_beq,l_beq0,l_beq1,l_beq2,UInt8.reduceToNat]) | ((with_reducible first | refine cB ?_ ?_ | refine oB ?_ ?_ | refine dB ?_ ?_) <;> intro _)
      all_goals trace_state
    · skip
      refine call_pure (pf := p94) rfl rfl rfl rfl (by simp [PV.lowL,PV.low,strs_low,flds_low,scts_low,funs_low,h1,exs_low,tys_low]) (by simp [PV.low,PV.lowL,strs_low,flds_low,scts_low,funs_low,h1,exs_low,tys_low]) ?_ h
      show kQ E _ (endQ [⟨8,some (some 2)⟩,⟨9,none⟩] _) .norm { lvl := 0,tmps := mk 167 [(0,.agg m.c),(1,.vs fs (flds sc)),(2,.agg [.int .i64 k,.int .i64 o,.str [102,101,116,99,104],.int .i64 x,.vs fl (exs (.mk k' o' nm' x' fl' as' :: r))]),(3,.vs ft (tys ts))],heap := [[none,none,none,none]],defers := [] }
      have pu45 : pureB E 45 = true := rfl
      have pu69 : pureB E 69 = true := rfl
      repeat' first | ((with_reducible first | refine cS ?_ ?_ | refine oS ?_ ?_ | refine dS ?_ ?_) <;> intro _) | ((with_reducible refine kk ?_ ?_); · rfl) | (simp -implicitDefEqProofs (disch := first | omega | assumption) only [push_cast,simprocAttr,eqTop,eqShL,eqSh,K_seq,hk,ha,h1,tys_low,tys_len,exs1,Ex.c,binS,take5,List.length_nil,l_beq,l_beq0,l_beq1,l_beq2,UInt8.reduceToNat]) | ((with_reducible first | refine cB ?_ ?_ | refine oB ?_ ?_ | refine dB ?_ ?_) <;> intro _)
      all_goals trace_state
    · skip
      refine call_pure (pf := p94) rfl rfl rfl rfl (by simp [PV.lowL,PV.low,strs_low,flds_low,scts_low,funs_low,h1,exs_low,tys_low]) (by simp [PV.low,PV.lowL,strs_low,flds_low,scts_low,funs_low,h1,exs_low,tys_low]) ?_ h
      show kQ E _ (endQ [⟨8,some (some 2)⟩,⟨9,none⟩] _) .norm { lvl := 0,tmps := mk 167 [(0,.agg m.c),(1,.vs fs (flds sc)),(2,.agg [.int .i64 k,.int .i64 o,.str [108,111,97,100],.int .i64 x,.vs fl (exs (.mk k' o' nm' x' fl' as' :: r))]),(3,.vs ft (tys ts))],heap := [[none,none,none,none]],defers := [] }
      have pu45 : pureB E 45 = true := rfl
      have pu69 : pureB E 69 = true := rfl
      repeat' first | ((with_reducible first | refine cS ?_ ?_ | refine oS ?_ ?_ | refine dS ?_ ?_) <;> intro _) | ((with_reducible refine kk ?_ ?_); · rfl) | (simp -implicitDefEqProofs (disch := first | omega | assumption) only [push_cast,simprocAttr,eqTop,eqShL,eqSh,K_seq,hk,ha,h1,tys_low,tys_len,exs1,Ex.c,binS,take5,List.length_nil,l_beq,l_beq0,l_beq1,l_beq2,UInt8.reduceToNat]) | ((with_reducible first | refine cB ?_ ?_ | refine oB ?_ ?_ | refine dB ?_ ?_) <;> intro _)
      all_goals trace_state
    · skip
      refine call_pure (pf := p94) rfl rfl rfl rfl (by simp [PV.lowL,PV.low,strs_low,flds_low,scts_low,funs_low,h1,exs_low,tys_low]) (by simp [PV.low,PV.lowL,strs_low,flds_low,scts_low,funs_low,h1,exs_low,tys_low]) ?_ h
      show kQ E _ (endQ [⟨8,some (some 2)⟩,⟨9,none⟩] _) .norm { lvl := 0,tmps := mk 167 [(0,.agg m.c),(1,.vs fs (flds sc)),(2,.agg [.int .i64 k,.int .i64 o,.str [100,100,120],.int .i64 x,.vs fl (exs (.mk k' o' nm' x' fl' as' :: r))]),(3,.vs ft (tys ts))],heap := [[none,none,none,none]],defers := [] }
      have pu45 : pureB E 45 = true := rfl
      have pu69 : pureB E 69 = true := rfl
      repeat' first | ((with_reducible first | refine cS ?_ ?_ | refine oS ?_ ?_ | refine dS ?_ ?_) <;> intro _) | ((with_reducible refine kk ?_ ?_); · rfl) | (simp -implicitDefEqProofs (disch := first | omega | assumption) only [push_cast,simprocAttr,eqTop,eqShL,eqSh,K_seq,hk,ha,h1,tys_low,tys_len,exs1,Ex.c,binS,take5,List.length_nil,l_beq,l_beq0,l_beq1,l_beq2,UInt8.reduceToNat]) | ((with_reducible first | refine cB ?_ ?_ | refine oB ?_ ?_ | refine dB ?_ ?_) <;> intro _)
      all_goals trace_state
    · skip
      refine call_pure (pf := p94) rfl rfl rfl rfl (by simp [PV.lowL,PV.low,strs_low,flds_low,scts_low,funs_low,h1,exs_low,tys_low]) (by simp [PV.low,PV.lowL,strs_low,flds_low,scts_low,funs_low,h1,exs_low,tys_low]) ?_ h
      show kQ E _ (endQ [⟨8,some (some 2)⟩,⟨9,none⟩] _) .norm { lvl := 0,tmps := mk 167 [(0,.agg m.c),(1,.vs fs (flds sc)),(2,.agg [.int .i64 k,.int .i64 o,.str [100,100,121],.int .i64 x,.vs fl (exs (.mk k' o' nm' x' fl' as' :: r))]),(3,.vs ft (tys ts))],heap := [[none,none,none,none]],defers := [] }
      have pu45 : pureB E 45 = true := rfl
      have pu69 : pureB E 69 = true := rfl
      repeat' first | ((with_reducible first | refine cS ?_ ?_ | refine oS ?_ ?_ | refine dS ?_ ?_) <;> intro _) | ((with_reducible refine kk ?_ ?_); · rfl) | (simp -implicitDefEqProofs (disch := first | omega | assumption) only [push_cast,simprocAttr,eqTop,eqShL,eqSh,K_seq,hk,ha,h1,tys_low,tys_len,exs1,Ex.c,binS,take5,List.length_nil,l_beq,l_beq0,l_beq1,l_beq2,UInt8.reduceToNat]) | ((with_reducible first | refine cB ?_ ?_ | refine oB ?_ ?_ | refine dB ?_ ?_) <;> intro _)
      all_goals trace_state
  · rcases hn with hn | hn | hn | hn | hn
    all_goals subst hn
    · skip
      refine call_pure (pf := p94) rfl rfl rfl rfl (by simp [PV.lowL,PV.low,strs_low,flds_low,scts_low,funs_low,h1,exs_low,tys_low]) (by simp [PV.low,PV.lowL,strs_low,flds_low,scts_low,funs_low,h1,exs_low,tys_low]) ?_ h
      show kQ E _ (endQ [⟨8,some (some 2)⟩,⟨9,none⟩] _) .norm { lvl := 0,tmps := mk 167 [(0,.agg m.c),(1,.vs fs (flds sc)),(2,.agg [.int .i64 k,.int .i64 o,.str [115,97,109,112,108,101],.int .i64 x,.vs fl (exs (.mk k' o' nm' x' fl' as' :: r))]),(3,.vs ft (tys ts))],heap := [[none,none,none,none]],defers := [] }
      have pu45 : pureB E 45 = true := rfl
      have pu69 : pureB E 69 = true := rfl
      repeat' first | ((with_reducible first | refine cS ?_ ?_ | refine oS ?_ ?_ | refine dS ?_ ?_) <;> intro _) | ((with_reducible refine kk ?_ ?_); · rfl) | (simp -implicitDefEqProofs (disch := first | omega | assumption) only [push_cast,simprocAttr,eqTop,eqShL,eqSh,K_seq,hk,h1,tys_low,tys_len,exs1,Ex.c,binS,take5,List.length_nil,l_beq,l_beq0,l_beq1,l_beq2,UInt8.reduceToNat]) | ((with_reducible first | refine cB ?_ ?_ | refine oB ?_ ?_ | refine dB ?_ ?_) <;> intro _)
      all_goals trace_state
    · skip
      refine call_pure (pf := p94) rfl rfl rfl rfl (by simp [PV.lowL,PV.low,strs_low,flds_low,scts_low,funs_low,h1,exs_low,tys_low]) (by simp [PV.low,PV.lowL,strs_low,flds_low,scts_low,funs_low,h1,exs_low,tys_low]) ?_ h
      show kQ E _ (endQ [⟨8,some (some 2)⟩,⟨9,none⟩] _) .norm { lvl := 0,tmps := mk 167 [(0,.agg m.c),(1,.vs fs (flds sc)),(2,.agg [.int .i64 k,.int .i64 o,.str [102,101,116,99,104],.int .i64 x,.vs fl (exs (.mk k' o' nm' x' fl' as' :: r))]),(3,.vs ft (tys ts))],heap := [[none,none,none,none]],defers := [] }
      have pu45 : pureB E 45 = true := rfl
      have pu69 : pureB E 69 = true := rfl
      repeat' first | ((with_reducible first | refine cS ?_ ?_ | refine oS ?_ ?_ | refine dS ?_ ?_) <;> intro _) | ((with_reducible refine kk ?_ ?_); · rfl) | (simp -implicitDefEqProofs (disch := first | omega | assumption) only [push_cast,simprocAttr,eqTop,eqShL,eqSh,K_seq,hk,h1,tys_low,tys_len,exs1,Ex.c,binS,take5,List.length_nil,l_beq,l_beq0,l_beq1,l_beq2,UInt8.reduceToNat]) | ((with_reducible first | refine cB ?_ ?_ | refine oB ?_ ?_ | refine dB ?_ ?_) <;> intro _)
      all_goals trace_state
    · skip
      refine call_pure (pf := p94) rfl rfl rfl rfl (by simp [PV.lowL,PV.low,strs_low,flds_low,scts_low,funs_low,h1,exs_low,tys_low]) (by simp [PV.low,PV.lowL,strs_low,flds_low,scts_low,funs_low,h1,exs_low,tys_low]) ?_ h
      show kQ E _ (endQ [⟨8,some (some 2)⟩,⟨9,none⟩] _) .norm { lvl := 0,tmps := mk 167 [(0,.agg m.c),(1,.vs fs (flds sc)),(2,.agg [.int .i64 k,.int .i64 o,.str [108,111,97,100],.int .i64 x,.vs fl (exs (.mk k' o' nm' x' fl' as' :: r))]),(3,.vs ft (tys ts))],heap := [[none,none,none,none]],defers := [] }
      have pu45 : pureB E 45 = true := rfl
      have pu69 : pureB E 69 = true := rfl
      repeat' first | ((with_reducible first | refine cS ?_ ?_ | refine oS ?_ ?_ | refine dS ?_ ?_) <;> intro _) | ((with_reducible refine kk ?_ ?_); · rfl) | (simp -implicitDefEqProofs (disch := first | omega | assumption) only [push_cast,simprocAttr,eqTop,eqShL,eqSh,K_seq,hk,h1,tys_low,tys_len,exs1,Ex.c,binS,take5,List.length_nil,l_beq,l_beq0,l_beq1,l_beq2,UInt8.reduceToNat]) | ((with_reducible first | refine cB ?_ ?_ | refine oB ?_ ?_ | refine dB ?_ ?_) <;> intro _)
      all_goals trace_state
    · skip
      refine call_pure (pf := p94) rfl rfl rfl rfl (by simp [PV.lowL,PV.low,strs_low,flds_low,scts_low,funs_low,h1,exs_low,tys_low]) (by simp [PV.low,PV.lowL,strs_low,flds_low,scts_low,funs_low,h1,exs_low,tys_low]) ?_ h
      show kQ E _ (endQ [⟨8,some (some 2)⟩,⟨9,none⟩] _) .norm { lvl := 0,tmps := mk 167 [(0,.agg m.c),(1,.vs fs (flds sc)),(2,.agg [.int .i64 k,.int .i64 o,.str [100,100,120],.int .i64 x,.vs fl (exs (.mk k' o' nm' x' fl' as' :: r))]),(3,.vs ft (tys ts))],heap := [[none,none,none,none]],defers := [] }
      have pu45 : pureB E 45 = true := rfl
      have pu69 : pureB E 69 = true := rfl
      repeat' first | ((with_reducible first | refine cS ?_ ?_ | refine oS ?_ ?_ | refine dS ?_ ?_) <;> intro _) | ((with_reducible refine kk ?_ ?_); · rfl) | (simp -implicitDefEqProofs (disch := first | omega | assumption) only [push_cast,simprocAttr,eqTop,eqShL,eqSh,K_seq,hk,h1,tys_low,tys_len,exs1,Ex.c,binS,take5,List.length_nil,l_beq,l_beq0,l_beq1,l_beq2,UInt8.reduceToNat]) | ((with_reducible first | refine cB ?_ ?_ | refine oB ?_ ?_ | refine dB ?_ ?_) <;> intro _)
      all_goals trace_state
    · skip
      refine call_pure (pf := p94) rfl rfl rfl rfl (by simp [PV.lowL,PV.low,strs_low,flds_low,scts_low,funs_low,h1,exs_low,tys_low]) (by simp [PV.low,PV.lowL,strs_low,flds_low,scts_low,funs_low,h1,exs_low,tys_low]) ?_ h
      show kQ E _ (endQ [⟨8,some (some 2)⟩,⟨9,none⟩] _) .norm { lvl := 0,tmps := mk 167 [(0,.agg m.c),(1,.vs fs (flds sc)),(2,.agg [.int .i64 k,.int .i64 o,.str [100,100,121],.int .i64 x,.vs fl (exs (.mk k' o' nm' x' fl' as' :: r))]),(3,.vs ft (tys ts))],heap := [[none,none,none,none]],defers := [] }
      have pu45 : pureB E 45 = true := rfl
      have pu69 : pureB E 69 = true := rfl
      repeat' first | ((with_reducible first | refine cS ?_ ?_ | refine oS ?_ ?_ | refine dS ?_ ?_) <;> intro _) | ((with_reducible refine kk ?_ ?_); · rfl) | (simp -implicitDefEqProofs (disch := first | omega | assumption) only [push_cast,simprocAttr,eqTop,eqShL,eqSh,K_seq,hk,h1,tys_low,tys_len,exs1,Ex.c,binS,take5,List.length_nil,l_beq,l_beq0,l_beq1,l_beq2,UInt8.reduceToNat]) | ((with_reducible first | refine cB ?_ ?_ | refine oB ?_ ?_ | refine dB ?_ ?_) <;> intro _)
      all_goals trace_state
end Go.VI.S
