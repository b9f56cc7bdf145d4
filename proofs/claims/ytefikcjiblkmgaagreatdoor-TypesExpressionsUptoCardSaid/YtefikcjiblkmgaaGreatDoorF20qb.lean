/- Chapter 20: calls; expressions whose arguments have types. -/
import Derived.Test.YtefikcjiblkmgaaGreatDoorF20q
set_option maxRecDepth 100000
set_option linter.unusedSimpArgs false
set_option linter.unusedVariables false
set_option pp.deepTerms.threshold 4
set_option pp.deepTerms false
namespace Go.VI.S
open Go.VI
set_option maxHeartbeats 4000000 in
theorem res_tx (m : Mod) (hm : m.Ok) (fs : Fl) (sc : List Fld) (hsc : sc.length ≤ 1048576) (k o x : Int) (nm : Str) (hn : nm = [115,97,109,112,108,101] ∨ nm = [102,101,116,99,104] ∨ nm = [108,111,97,100]) (fl : Fl) (k' o' : Int) (nm' : Str) (x' : Int) (fl' : Fl) (as' r : List Ex) (ft : Fl) (ts : List Ty) (hz : ts.length = r.length + 1) (hb : ts.length ≤ 1048576) (hq : k' = 4 ∧ as'.length = 0) (h : Heap) :
    doCall E (callR E) 130 [.agg m.c,.vs fs (flds sc),.agg [.int .i64 k,.int .i64 o,.str nm,.int .i64 x,.vs fl (exs (.mk k' o' nm' x' fl' as' :: r))],.vs ft (tys ts)] h = some (encR (resourceF m sc nm (.mk k' o' nm' x' fl' as' :: r) ts),h) := by
  have h1 := m.hm
  have g1 := hm.ts
  have g2 := hm.bs
  have g3 := hm.ins
  refine call_pure (pf := p130) rfl rfl rfl rfl (by simp [PV.lowL,PV.low,strs_low,flds_low,scts_low,funs_low,h1,exs_low,tys_low]) (by simp [PV.low,PV.lowL,strs_low,flds_low,scts_low,funs_low,h1,exs_low,tys_low]) ?_ h
  show kQ E _ (endQ [⟨8,some (some 2)⟩,⟨9,none⟩] _) .norm { lvl := 0,tmps := mk 128 [(0,.agg m.c),(1,.vs fs (flds sc)),(2,.agg [.int .i64 k,.int .i64 o,.str nm,.int .i64 x,.vs fl (exs (.mk k' o' nm' x' fl' as' :: r))]),(3,.vs ft (tys ts))],heap := [[none,none,none,none,none]],defers := [] }
  have pu84 : pureB E 84 = true := rfl
  obtain ⟨hk4,hq0⟩ := hq
  have hdl : (ts.drop 1).length = ts.length - 1 := by simp
  have hdb : (ts.drop 1).length ≤ 1048576 := by omega
  have htk : ts.take (r.length + 1) = ts := by rw [← hz]; exact List.take_length
  have p1 := fdF_bd m.ins nm'
  have p2 := fdF_bd sc nm'
  have hd1 : headSz 2 (tys ts) = true := tys_head
  rcases hn with hn | hn | hn
  all_goals subst hn
  all_goals
    repeat' first | ((with_reducible first | refine cS ?_ ?_ | refine oS ?_ ?_ | refine dS ?_ ?_) <;> intro _) | ((with_reducible refine kk ?_ ?_); · rfl) | (simp -implicitDefEqProofs (disch := first | omega | assumption) only [push_cast,simprocAttr,K_seq,ty_eq,ty_eta,l_beq,l_beq0,l_beq1,l_beq2,UInt8.reduceToNat,h1,tys_low,tys_len,hz,exs1,Ex.c,g1,g2,g3,hsc,shas_ok,kind_ok,hk4,hq0,binS,boundsE,bound,tys_drop,tys_take',htk,hd1,Option.isSome_none,Bool.false_eq_true,val1,val2,val3,hdb,fidx_ok,vc_ok,stabG,stabS,same_agg,same_ip,same_int,same_bool,same_str,same_vs,same_sl,same_ptr,sameL_nil,sameL_cons]) | ((with_reducible first | refine cB ?_ ?_ | refine oB ?_ ?_ | refine dB ?_ ?_) <;> intro _) | with_reducible refine optD_chk ?_ ?_ | with_reducible refine chkQ_out (by decide) ?_ | with_reducible refine chkQ_in' (by decide) ?_ ?_ | with_reducible exact chkQ_end | with_reducible refine stab1_eq ?_ | with_reducible refine optQ_some' ?_
  all_goals first
    | (simp [resourceF,Ex.kind,Ex.name,Ex.args,hq0, *]; done)
    | (rename_i hh; have hh' := Int.not_le.1 hh; simp [resourceF,Ex.kind,Ex.name,Ex.args,hq0,hk4,hh']; done)
    | (rename_i hh; have hh' := Int.not_lt.2 (Decidable.not_not.1 hh); simp [resourceF,Ex.kind,Ex.name,Ex.args,hq0,hk4,hh']; done)
    | trace_state
set_option maxHeartbeats 4000000 in
theorem resource_ok (m : Mod) (hm : m.Ok) (fs : Fl) (sc : List Fld) (hsc : sc.length ≤ 1048576) (k o x : Int) (nm : Str) (hn : nm ∈ resNames) (fl : Fl) (as : List Ex) (ft : Fl) (ts : List Ty) (hl : ts.length = as.length) (hb : ts.length ≤ 1048576) (h : Heap) :
    doCall E (callR E) 130 [.agg m.c,.vs fs (flds sc),.agg [.int .i64 k,.int .i64 o,.str nm,.int .i64 x,.vs fl (exs as)],.vs ft (tys ts)] h = some (encR (resourceF m sc nm as ts),h) := by
  by_cases hq : ∃ o' nm' x' fl' r,as = .mk 4 o' nm' x' fl' [] :: r
  · obtain ⟨o',nm',x',fl',r,rfl⟩ := hq
    simp only [resNames,List.mem_cons,List.not_mem_nil,or_false] at hn
    have hz : ts.length = r.length + 1 := by simpa using hl
    rcases hn with hn | hn | hn | hn | hn
    · exact res_tx m hm fs sc hsc k o x nm (.inl hn) fl 4 o' nm' x' fl' [] r ft ts hz hb ⟨rfl,rfl⟩ h
    · exact res_tx m hm fs sc hsc k o x nm (.inr (.inl hn)) fl 4 o' nm' x' fl' [] r ft ts hz hb ⟨rfl,rfl⟩ h
    · exact res_tx m hm fs sc hsc k o x nm (.inr (.inr hn)) fl 4 o' nm' x' fl' [] r ft ts hz hb ⟨rfl,rfl⟩ h
    · exact res_dd m hm fs sc hsc k o x nm (.inl hn) fl 4 o' nm' x' fl' [] r ft ts hz hb ⟨rfl,rfl⟩ h
    · exact res_dd m hm fs sc hsc k o x nm (.inr hn) fl 4 o' nm' x' fl' [] r ft ts hz hb ⟨rfl,rfl⟩ h
  have h1 := m.hm
  refine call_pure (pf := p130) rfl rfl rfl rfl (by simp [PV.lowL,PV.low,strs_low,flds_low,scts_low,funs_low,h1,exs_low,tys_low]) (by simp [PV.low,PV.lowL,strs_low,flds_low,scts_low,funs_low,h1,exs_low,tys_low]) ?_ h
  show kQ E _ (endQ [⟨8,some (some 2)⟩,⟨9,none⟩] _) .norm { lvl := 0,tmps := mk 128 [(0,.agg m.c),(1,.vs fs (flds sc)),(2,.agg [.int .i64 k,.int .i64 o,.str nm,.int .i64 x,.vs fl (exs as)]),(3,.vs ft (tys ts))],heap := [[none,none,none,none,none]],defers := [] }
  have pu84 : pureB E 84 = true := rfl
  cases as with
  | nil =>
    have hz : ts.length = 0 := by simpa using hl
    repeat' first | ((with_reducible first | refine cS ?_ ?_ | refine oS ?_ ?_ | refine dS ?_ ?_) <;> intro _) | ((with_reducible refine kk ?_ ?_); · rfl) | (simp -implicitDefEqProofs (disch := first | omega | assumption) only [push_cast,simprocAttr,eqTop,eqShL,eqSh,K_seq,tys_len,hz]) | ((with_reducible first | refine cB ?_ ?_ | refine oB ?_ ?_ | refine dB ?_ ?_) <;> intro _)
    simp [resourceF]
  | cons a r =>
    obtain ⟨k',o',nm',x',fl',as'⟩ := a
    have hz : ts.length = r.length + 1 := by simpa using hl
    have hd1 : headSz 2 (tys ts) = true := tys_head
    by_cases hk4 : k' = 4
    · have hq0 : ¬ as'.length = 0 := fun h => hq ⟨o',nm',x',fl',r,by rw [hk4,List.eq_nil_of_length_eq_zero h]⟩
      repeat' first | ((with_reducible first | refine cS ?_ ?_ | refine oS ?_ ?_ | refine dS ?_ ?_) <;> intro _) | ((with_reducible refine kk ?_ ?_); · rfl) | (simp -implicitDefEqProofs (disch := first | omega | assumption) only [push_cast,simprocAttr,eqTop,eqShL,eqSh,K_seq,tys_len,hz,exs1,Ex.c,hk4]) | ((with_reducible first | refine cB ?_ ?_ | refine oB ?_ ?_ | refine dB ?_ ?_) <;> intro _)
      have hp : 0 < as'.length := by omega
      all_goals simp [resourceF,Ex.kind,Ex.name,Ex.args,hk4,hp]
    · repeat' first | ((with_reducible first | refine cS ?_ ?_ | refine oS ?_ ?_ | refine dS ?_ ?_) <;> intro _) | ((with_reducible refine kk ?_ ?_); · rfl) | (simp -implicitDefEqProofs (disch := first | omega | assumption) only [push_cast,simprocAttr,eqTop,eqShL,eqSh,K_seq,tys_len,hz,exs1,Ex.c]) | ((with_reducible first | refine cB ?_ ?_ | refine oB ?_ ?_ | refine dB ?_ ?_) <;> intro _)
      all_goals simp [resourceF,Ex.kind,Ex.name,Ex.args,hk4]
def callF (m : Mod) (sc : List Fld) (nm : Str) (as : List Ex) (ts : List Ty) : Ty × Int :=
  if 0 < wordF nm then constructF m (wordF nm) ts
  else if 0 ≤ stF m nm then matchF ts (fldsAt m (stF m nm)) ⟨8,nm⟩
  else if nm ∈ resNames then resourceF m sc nm as ts
  else if bltF nm then builtinF nm ts
  else if 0 ≤ fnF m nm then (match m.fs[(fnF m nm).toNat]? with | some f => matchF ts f.ps f.res | none => (tz,13))
  else (tz,13)
def nodeF (m : Mod) (sc : List Fld) (k o : Int) (nm : Str) (x : Int) (as : List Ex) (ts : List Ty) : Ty × Int :=
  if k = 1 then litF 1 x 536870911 else if k = 2 then litF 3 x 2147483647 else if k = 3 then litF 4 x 1
  else if k = 4 then varR m sc nm
  else if k = 5 then unaryF o (ts.getD 0 tz)
  else if k = 6 then binaryF o (ts.getD 0 tz) (ts.getD 1 tz)
  else if k = 8 then memF m (ts.getD 0 tz) nm
  else if k = 9 then (if isVc (ts.getD 0 tz).kind ∧ ts.getD 1 tz = ⟨3,[]⟩ then (⟨1,[]⟩,0) else (tz,12))
  else callF m sc nm as ts
def outF (r : Ty × Int) : Ty × Int := if r.2 ≠ 0 then (tz,r.2) else (r.1,0)
def consX (t : Ty) : Except Int (List Ty) → Except Int (List Ty)
  | .ok l => .ok (t :: l)
  | .error c => .error c
mutual
def exprF (m : Mod) (sc : List Fld) : Ex → Ty × Int
  | .mk k o nm x fl as =>
    if k ≠ 7 ∧ (as.length : Int) ≠ arityF k then (tz,10)
    else match argsF m sc (takesF m k nm) as with
      | .error c => (tz,c)
      | .ok ts => outF (nodeF m sc k o nm x as ts)
def argsF (m : Mod) (sc : List Fld) (skip : Bool) : List Ex → Except Int (List Ty)
  | [] => .ok []
  | a :: r => if skip then consX tz (argsF m sc false r)
    else if (exprF m sc a).2 ≠ 0 then .error (exprF m sc a).2
    else consX (exprF m sc a).1 (argsF m sc false r)
end
end Go.VI.S
