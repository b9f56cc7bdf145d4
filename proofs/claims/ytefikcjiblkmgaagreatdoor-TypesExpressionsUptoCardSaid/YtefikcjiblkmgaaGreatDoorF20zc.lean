/- Chapter 20: the reference's calls are the program's. -/
import Derived.Test.YtefikcjiblkmgaaGreatDoorF20zb
set_option maxRecDepth 100000
set_option linter.unusedSimpArgs false
set_option linter.unusedVariables false
set_option pp.deepTerms.threshold 4
set_option pp.deepTerms false
namespace Go.VI.S
open Go.VI
theorem rar_nine {nm : Str} (h : nm ∈ nineL) : rarF nm = cntF nm := by
  simp only [nineL,List.mem_cons,List.not_mem_nil,or_false] at h
  rcases h with h | h | h | h | h | h | h | h | h <;> subst h <;> decide
theorem rar_neg {nm : Str} (h : bltF nm = false) : rarF nm = -1 := by
  simp only [bltF,sidx_mem,decide_eq_false_iff_not] at h
  simp [builtinsL] at h
  simp [rarF,h]
set_option maxHeartbeats 4000000 in
theorem rcall_ok (m : Mod) (hm : m.Ok) (hcl : ∀ f ∈ m.ins,f.ty.Cl) (fs : Fl) (sc : List Fld) (hsc : sc.length ≤ 1048576) (o x : Int) (nm : Str) (fl : Fl) (xs : List Ex) (ft : Fl) (ts : List Ty) (htc : ∀ t ∈ ts,t.Cl) (hl : ts.length = xs.length) (hb : ts.length ≤ 1048576) (h : Heap) :
    doCall E (callR E) 46 [.agg m.c,.vs fs (flds sc),.agg [.int .i64 7,.int .i64 o,.str nm,.int .i64 x,.vs fl (exs xs)],.vs ft (tys ts)] h = some (encR (callF m sc nm xs ts),h) := by
  have h1 := m.hm
  have hw := wordF_bd nm
  have hs := stF_bd m nm
  have hf := fnF_bd m nm
  refine call_pure (pf := p46) rfl rfl rfl rfl (by simp [PV.lowL,PV.low,strs_low,flds_low,scts_low,funs_low,h1,exs_low,tys_low]) (by simp [PV.low,PV.lowL,strs_low,flds_low,scts_low,funs_low,h1,exs_low,tys_low]) ?_ h
  show kQ E _ (endQ [⟨8,some (some 2)⟩,⟨9,none⟩] _) .norm { lvl := 0,tmps := mk 93 [(0,.agg m.c),(1,.vs fs (flds sc)),(2,.agg [.int .i64 7,.int .i64 o,.str nm,.int .i64 x,.vs fl (exs xs)]),(3,.vs ft (tys ts))],heap := [[none]],defers := [] }
  by_cases w : 0 < wordF nm
  · have hc := fun f h => rcon_ok m hm (wordF nm) (by omega) f ts hb h
    have hc' := rcon_cl (m := m) (k := wordF nm) (by omega) htc
    repeat' first | ((with_reducible first | refine cS ?_ ?_ | refine oS ?_ ?_ | refine dS ?_ ?_) <;> intro _) | ((with_reducible refine kk ?_ ?_); · rfl) | (simp -implicitDefEqProofs (disch := first | omega | assumption) only [push_cast,simprocAttr,eqTop,eqShL,eqSh,K_seq,h1,tys_low,rword_ok,hc,hc',hm]) | ((with_reducible first | refine cB ?_ ?_ | refine oB ?_ ?_ | refine dB ?_ ?_) <;> intro _)
    all_goals simp [callF,w]
  by_cases s : 0 ≤ stF m nm
  · obtain ⟨t,hmem,hg,hfs⟩ := scts_get (m := m) (j := stF m nm) s hs.2
    have hsl := hm.sf t hmem
    have hmt := fun h => given_ok ft t.fl ts t.fs ⟨8,nm⟩ hsl hb h
    repeat' first | ((with_reducible first | refine cS ?_ ?_ | refine oS ?_ ?_ | refine dS ?_ ?_) <;> intro _) | ((with_reducible refine kk ?_ ?_); · rfl) | (simp -implicitDefEqProofs (disch := first | omega | assumption) only [push_cast,simprocAttr,eqTop,eqShL,eqSh,K_seq,h1,tys_low,rword_ok,rfind_ok,hm,hg,hmt,w,s]) | ((with_reducible first | refine cB ?_ ?_ | refine oB ?_ ?_ | refine dB ?_ ?_) <;> intro _)
    all_goals simp [callF,w,s,hfs]
  by_cases r : nm ∈ resNames
  · have ht : takesF m 7 nm = true := by simp [takesF,r]; omega
    have hr := fun k h => rres_ok m hm hcl fs sc hsc k o x nm r fl xs ft ts hl hb h
    repeat' first | ((with_reducible first | refine cS ?_ ?_ | refine oS ?_ ?_ | refine dS ?_ ?_) <;> intro _) | ((with_reducible refine kk ?_ ?_); · rfl) | (simp -implicitDefEqProofs (disch := first | omega | assumption) only [push_cast,simprocAttr,eqTop,eqShL,eqSh,K_seq,h1,tys_low,rword_ok,rfind_ok,byn_ok,hm,w,s,ht,hr]) | ((with_reducible first | refine cB ?_ ?_ | refine oB ?_ ?_ | refine dB ?_ ?_) <;> intro _)
    all_goals simp [callF,w,s,r]
  have ht : takesF m 7 nm = false := by simp [takesF,r]
  by_cases b : bltF nm = true
  · have hn := blt_nine b r
    have hr := rar_nine hn
    by_cases hz : ts.length = cntF nm
    · have hc := fun f h => rcalc_ok f ts nm hn hz htc h
      repeat' first | ((with_reducible first | refine cS ?_ ?_ | refine oS ?_ ?_ | refine dS ?_ ?_) <;> intro _) | ((with_reducible refine kk ?_ ?_); · rfl) | (simp -implicitDefEqProofs (disch := first | omega | assumption) only [push_cast,simprocAttr,eqTop,eqShL,eqSh,K_seq,h1,tys_low,rword_ok,rfind_ok,byn_ok,hm,w,s,ht,rar_ok,hr,hc,tys_len,hz]) | ((with_reducible first | refine cB ?_ ?_ | refine oB ?_ ?_ | refine dB ?_ ?_) <;> intro _)
      all_goals simp [callF,w,s,r,b]
    · repeat' first | ((with_reducible first | refine cS ?_ ?_ | refine oS ?_ ?_ | refine dS ?_ ?_) <;> intro _) | ((with_reducible refine kk ?_ ?_); · rfl) | (simp -implicitDefEqProofs (disch := first | omega | assumption) only [push_cast,simprocAttr,eqTop,eqShL,eqSh,K_seq,h1,tys_low,rword_ok,rfind_ok,byn_ok,hm,w,s,ht,rar_ok,hr,tys_len,hz]) | ((with_reducible first | refine cB ?_ ?_ | refine oB ?_ ?_ | refine dB ?_ ?_) <;> intro _)
      all_goals simp [callF,w,s,r,b,builtinF,hz]
  have b' : bltF nm = false := by simpa using b
  have hr := rar_neg b'
  by_cases f : 0 ≤ fnF m nm
  · obtain ⟨g,hmem,hg0,hg⟩ := fun_get (m := m) (j := fnF m nm) f hf.2
    have hpl := hm.pf g hmem
    have hrl := g.hl
    have hmt := fun h => given_ok ft g.fl ts g.ps g.res hpl hb h
    repeat' first | ((with_reducible first | refine cS ?_ ?_ | refine oS ?_ ?_ | refine dS ?_ ?_) <;> intro _) | ((with_reducible refine kk ?_ ?_); · rfl) | (simp -implicitDefEqProofs (disch := first | omega | assumption) only [push_cast,simprocAttr,eqTop,eqShL,eqSh,K_seq,h1,tys_low,rword_ok,rfind_ok,rfindf_ok,byn_ok,hm,w,s,ht,rar_ok,hr,f,hg,hrl,hmt]) | ((with_reducible first | refine cB ?_ ?_ | refine oB ?_ ?_ | refine dB ?_ ?_) <;> intro _)
    all_goals simp [callF,w,s,r,b',f,hg0]
  · repeat' first | ((with_reducible first | refine cS ?_ ?_ | refine oS ?_ ?_ | refine dS ?_ ?_) <;> intro _) | ((with_reducible refine kk ?_ ?_); · rfl) | (simp -implicitDefEqProofs (disch := first | omega | assumption) only [push_cast,simprocAttr,eqTop,eqShL,eqSh,K_seq,h1,tys_low,rword_ok,rfind_ok,rfindf_ok,byn_ok,hm,w,s,ht,rar_ok,hr,f]) | ((with_reducible first | refine cB ?_ ?_ | refine oB ?_ ?_ | refine dB ?_ ?_) <;> intro _)
    all_goals simp [callF,w,s,r,b',f]
end Go.VI.S
