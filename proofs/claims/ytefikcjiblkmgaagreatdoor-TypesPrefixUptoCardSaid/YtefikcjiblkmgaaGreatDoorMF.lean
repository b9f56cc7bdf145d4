/- Chapter 20: the weight of an expression. -/
import Derived.Test.YtefikcjiblkmgaaGreatDoorME
import Derived.Test.YtefikcjiblkmgaaGreatDoorX20
set_option maxRecDepth 100000
set_option linter.unusedSimpArgs false
set_option linter.unusedVariables false
set_option linter.unusedSectionVars false
namespace Go.VI.S
open Go.VI
section
def WBok (Bf:BF) (m:Mod) (sc:List Fld) (A c:Int) (l:List St):Prop:=∀ (fs f:Fl) (q:Int) (H:Heap),0≤q→q≤1000000→heapLow (H.length+1) H=true →
  ∃ fl',doCall E (callR E) 47 [.ptr (0,0) 1 0 0,.agg m.c,.vs fs (flds sc),.vs f (sts l)] (wH A q c H)=some (.vs fl' (flds (Bf m sc l q c).2),wH A (Bf m sc l q c).1 c H)
theorem Xx {l:List Ex} {n:Nat}:(exs l).drop n=exs (l.drop n):=by simp [exs_map,List.map_drop]
theorem exs_hd {l:List Ex}:headSz 5 (exs l)=true:=by
  cases l with
  | nil=>rfl
  | cons a r=>simp only [exs,headSz,PV.cells];rw [a.c_len];rfl
theorem exs_tk {l:List Ex}:(exs l).take l.length=exs l:=List.take_of_length_le (by rw [exs_len];exact Nat.le_refl _)
section
variable (m:Mod) (hm:m.Ok) (sc:List Fld) (A c:Int) (hc0:0≤c) (hc1:c≤4194304) (Ef:EF) (Bf:BF) (hEm:EMono Ef) (hBm:BMono Bf)
include hm hEm in
set_option maxHeartbeats 8000000 in
theorem we_err (k o x tk er:Int) (nm tn:Str) (fs fl:Fl) (as:List Ex) (q:Int) (H:Heap) (h0:0≤q) (h1:¬ q≥1000000) (hH:heapLow (H.length+1) H=true) (has:as.length≤1048576) (hE:∀ a∈as,WEok Ef m sc A c a)
    (hx:∀ h,doCall E (callR E) 11 [.agg m.c,.vs fs (flds sc),.agg [.int .i64 k,.int .i64 o,.str nm,.int .i64 x,.vs fl (exs as)]] h=some (encR (⟨tk,tn⟩,er),h)) (he:¬ er=0) :
    doCall E (callR E) 98 [.ptr (0,0) 1 0 0,.agg m.c,.vs fs (flds sc),.agg [.int .i64 k,.int .i64 o,.str nm,.int .i64 x,.vs fl (exs as)]] (wH A q c H)=some (.tuple [],wH A (wL Ef m sc c (as) (satA q ((1:Int)))) c H):=by
  have hl:=m.hm
  have hw:=fun s=>wO_low (k:=H.length+1) (A:=A) (s:=s) (c:=c)
  have qw:=fun h=>Xb nm h
  have qs:=fun h=>Yt m hm nm h
  have qb:=fun h=>blt_ok nm h
  have qf:=fun h=>Xk m hm nm h
  have qt:=fun h=>Yi m hm k o x nm fl as h
  have qc:=fun h=>Xi m hm tk tn h
  have hcb:=Yv m tk tn
  have ho:∀ k,[some (.mem [.agg [.int .i64 tk,.str tn]] 1 false 2),none,none,none,none].all (obLow k)=true:=fun k=>by simp [obLow,PV.lowL,PV.low]
  have ho4:∀ k,[some (.mem [.agg [.int .i64 tk,.str tn]] 1 false 2),none,none,none].all (obLow k)=true:=fun k=>by simp [obLow,PV.lowL,PV.low]
  have hadd:=fun n h3 h4=>X7 A q c n h0 (by omega) h3 h4 (H++[[some (.mem [.agg [.int .i64 tk,.str tn]] 1 false 2),none,none,none,none]]) (hPush hH ho)
  have hn:0≤(1:Int)∧(1:Int)≤1000:=⟨by omega,by omega⟩
  have hadd:=hadd ((1:Int)) hn.1 hn.2
  refine Z7 (pf:=p98) rfl rfl rfl rfl rfl (by simp [PV.lowL,PV.low]) ?_
  show kQ E _ (endM [] _ _ _) .norm { lvl:=H.length+1,tmps:=mk 168 [(0,.ptr (0,0) 1 0 0),(1,.agg m.c),(2,.vs fs (flds sc)),(3,.agg [.int .i64 k,.int .i64 o,.str nm,.int .i64 x,.vs fl (exs as)])],heap:=[wO A q c]::(H++[[none,none,none,none,none]]),defers:=[] }
  repeat' first|(with_reducible first|refine cS ?_ ?_|refine oS ?_ ?_|refine dS ?_ ?_)<;>intro _|((with_reducible refine kk ?_ ?_);·rfl)|simp -implicitDefEqProofs(disch:=first|omega|assumption)only[push_cast,simprocAttr,Zd,Zc,Ze,Zb,hl,hx,qw,qs,qb,qf,qt,qc,hadd,Yh,exs_hd,Xx,exs_tk,h1,he]|(with_reducible first|refine cB ?_ ?_|refine oB ?_ ?_|refine dB ?_ ?_)<;>intro _
  have hmo:=Yy (s:=q) (n:=(1:Int)) (by omega) hn.1
  with_reducible refine wla_loop m sc (as) has (fs:=fs) (fl:=fl) Ef hEm A c hE H hH (o0:=some (.mem [.agg [.int .i64 tk,.str tn]] 1 false 2)) (o2:=none) (o3:=none) (o4:=none) ho4 (v10:=.int .i64 (-1)) (wL Ef m sc c (as) (satA q ((1:Int)))) ?_ (as) [] (satA q ((1:Int))) none _ rfl rfl (by omega) hmo.2 (fun _=>rfl) (by simp [look,Za,Fl.full, *]) (by simp [look,Za,Fl.full, *]) (by simp [look,Za,Fl.full, *]) (by simp [look,Za,Fl.full, *]) (by simp [look,Za,Fl.full, *]) (by simp [look,Za,Fl.full, *]) (by simp [look,Za,Fl.full, *])
  intro t q2 o1 e2 b1 b2 ho1 k0 k5 k10
  subst e2
  repeat' first|(with_reducible first|refine cS ?_ ?_|refine oS ?_ ?_|refine dS ?_ ?_)<;>intro _|((with_reducible refine kk ?_ ?_);·rfl)|simp -implicitDefEqProofs(disch:=first|omega|assumption)only[push_cast,simprocAttr,Zd,Zc,Ze,Zb,k0,k5,k10,hw,hH,Zm,Zn,allMarks,List.all_cons,List.all_nil]|(with_reducible first|refine cB ?_ ?_|refine oB ?_ ?_|refine dB ?_ ?_)<;>intro _
include hm hEm in
set_option maxHeartbeats 8000000 in
theorem we_k9 (o x tk er:Int) (nm tn:Str) (fs fl:Fl) (as:List Ex) (q:Int) (H:Heap) (h0:0≤q) (h1:¬ q≥1000000) (hH:heapLow (H.length+1) H=true) (has:as.length≤1048576) (hE:∀ a∈as,WEok Ef m sc A c a)
    (hx:∀ h,doCall E (callR E) 11 [.agg m.c,.vs fs (flds sc),.agg [.int .i64 9,.int .i64 o,.str nm,.int .i64 x,.vs fl (exs as)]] h=some (encR (⟨tk,tn⟩,er),h)) (he:er=0) (ht:takesF m 9 nm=false) :
    doCall E (callR E) 98 [.ptr (0,0) 1 0 0,.agg m.c,.vs fs (flds sc),.agg [.int .i64 9,.int .i64 o,.str nm,.int .i64 x,.vs fl (exs as)]] (wH A q c H)=some (.tuple [],wH A (wL Ef m sc c (as) (satA q ((4:Int)))) c H):=by
  have hl:=m.hm
  have hw:=fun s=>wO_low (k:=H.length+1) (A:=A) (s:=s) (c:=c)
  have qw:=fun h=>Xb nm h
  have qs:=fun h=>Yt m hm nm h
  have qb:=fun h=>blt_ok nm h
  have qf:=fun h=>Xk m hm nm h
  have qt:=fun h=>Yi m hm 9 o x nm fl as h
  have qc:=fun h=>Xi m hm tk tn h
  have hcb:=Yv m tk tn
  have ho:∀ k,[some (.mem [.agg [.int .i64 tk,.str tn]] 1 false 2),none,none,none,none].all (obLow k)=true:=fun k=>by simp [obLow,PV.lowL,PV.low]
  have ho4:∀ k,[some (.mem [.agg [.int .i64 tk,.str tn]] 1 false 2),none,none,none].all (obLow k)=true:=fun k=>by simp [obLow,PV.lowL,PV.low]
  have hadd:=fun n h3 h4=>X7 A q c n h0 (by omega) h3 h4 (H++[[some (.mem [.agg [.int .i64 tk,.str tn]] 1 false 2),none,none,none,none]]) (hPush hH ho)
  have hn:0≤(4:Int)∧(4:Int)≤1000:=⟨by omega,by omega⟩
  have hadd:=hadd ((4:Int)) hn.1 hn.2
  refine Z7 (pf:=p98) rfl rfl rfl rfl rfl (by simp [PV.lowL,PV.low]) ?_
  show kQ E _ (endM [] _ _ _) .norm { lvl:=H.length+1,tmps:=mk 168 [(0,.ptr (0,0) 1 0 0),(1,.agg m.c),(2,.vs fs (flds sc)),(3,.agg [.int .i64 9,.int .i64 o,.str nm,.int .i64 x,.vs fl (exs as)])],heap:=[wO A q c]::(H++[[none,none,none,none,none]]),defers:=[] }
  repeat' first|(with_reducible first|refine cS ?_ ?_|refine oS ?_ ?_|refine dS ?_ ?_)<;>intro _|((with_reducible refine kk ?_ ?_);·rfl)|simp -implicitDefEqProofs(disch:=first|omega|assumption)only[push_cast,simprocAttr,Zd,Zc,Ze,Zb,hl,hx,qw,qs,qb,qf,qt,qc,hadd,Yh,exs_hd,Xx,exs_tk,h1,he,ht]|(with_reducible first|refine cB ?_ ?_|refine oB ?_ ?_|refine dB ?_ ?_)<;>intro _
  have hmo:=Yy (s:=q) (n:=(4:Int)) (by omega) hn.1
  with_reducible refine wla_loop m sc (as) has (fs:=fs) (fl:=fl) Ef hEm A c hE H hH (o0:=some (.mem [.agg [.int .i64 tk,.str tn]] 1 false 2)) (o2:=none) (o3:=none) (o4:=none) ho4 (v10:=.int .i64 (-1)) (wL Ef m sc c (as) (satA q ((4:Int)))) ?_ (as) [] (satA q ((4:Int))) none _ rfl rfl (by omega) hmo.2 (fun _=>rfl) (by simp [look,Za,Fl.full, *]) (by simp [look,Za,Fl.full, *]) (by simp [look,Za,Fl.full, *]) (by simp [look,Za,Fl.full, *]) (by simp [look,Za,Fl.full, *]) (by simp [look,Za,Fl.full, *]) (by simp [look,Za,Fl.full, *])
  intro t q2 o1 e2 b1 b2 ho1 k0 k5 k10
  subst e2
  repeat' first|(with_reducible first|refine cS ?_ ?_|refine oS ?_ ?_|refine dS ?_ ?_)<;>intro _|((with_reducible refine kk ?_ ?_);·rfl)|simp -implicitDefEqProofs(disch:=first|omega|assumption)only[push_cast,simprocAttr,Zd,Zc,Ze,Zb,k0,k5,k10,hw,hH,Zm,Zn,allMarks,List.all_cons,List.all_nil]|(with_reducible first|refine cB ?_ ?_|refine oB ?_ ?_|refine dB ?_ ?_)<;>intro _
include hm hEm in
set_option maxHeartbeats 8000000 in
theorem we_k (k o x tk er:Int) (nm tn:Str) (fs fl:Fl) (as:List Ex) (q:Int) (H:Heap) (h0:0≤q) (h1:¬ q≥1000000) (hH:heapLow (H.length+1) H=true) (has:as.length≤1048576) (hE:∀ a∈as,WEok Ef m sc A c a)
    (hx:∀ h,doCall E (callR E) 11 [.agg m.c,.vs fs (flds sc),.agg [.int .i64 k,.int .i64 o,.str nm,.int .i64 x,.vs fl (exs as)]] h=some (encR (⟨tk,tn⟩,er),h)) (he:er=0) (ht:takesF m k nm=false) (k7:¬ k=7) (k9:¬ k=9) :
    doCall E (callR E) 98 [.ptr (0,0) 1 0 0,.agg m.c,.vs fs (flds sc),.agg [.int .i64 k,.int .i64 o,.str nm,.int .i64 x,.vs fl (exs as)]] (wH A q c H)=some (.tuple [],wH A (wL Ef m sc c (as) (satA q (mxI 1 (compF m tk tn)))) c H):=by
  have hl:=m.hm
  have hw:=fun s=>wO_low (k:=H.length+1) (A:=A) (s:=s) (c:=c)
  have qw:=fun h=>Xb nm h
  have qs:=fun h=>Yt m hm nm h
  have qb:=fun h=>blt_ok nm h
  have qf:=fun h=>Xk m hm nm h
  have qt:=fun h=>Yi m hm k o x nm fl as h
  have qc:=fun h=>Xi m hm tk tn h
  have hcb:=Yv m tk tn
  have ho:∀ k,[some (.mem [.agg [.int .i64 tk,.str tn]] 1 false 2),none,none,none,none].all (obLow k)=true:=fun k=>by simp [obLow,PV.lowL,PV.low]
  have ho4:∀ k,[some (.mem [.agg [.int .i64 tk,.str tn]] 1 false 2),none,none,none].all (obLow k)=true:=fun k=>by simp [obLow,PV.lowL,PV.low]
  have hadd:=fun n h3 h4=>X7 A q c n h0 (by omega) h3 h4 (H++[[some (.mem [.agg [.int .i64 tk,.str tn]] 1 false 2),none,none,none,none]]) (hPush hH ho)
  have hn:0≤mxI 1 (compF m tk tn)∧mxI 1 (compF m tk tn)≤1000:=by unfold mxI;split<;>omega
  have hadd:=hadd (mxI 1 (compF m tk tn)) hn.1 hn.2
  refine Z7 (pf:=p98) rfl rfl rfl rfl rfl (by simp [PV.lowL,PV.low]) ?_
  show kQ E _ (endM [] _ _ _) .norm { lvl:=H.length+1,tmps:=mk 168 [(0,.ptr (0,0) 1 0 0),(1,.agg m.c),(2,.vs fs (flds sc)),(3,.agg [.int .i64 k,.int .i64 o,.str nm,.int .i64 x,.vs fl (exs as)])],heap:=[wO A q c]::(H++[[none,none,none,none,none]]),defers:=[] }
  repeat' first|(with_reducible first|refine cS ?_ ?_|refine oS ?_ ?_|refine dS ?_ ?_)<;>intro _|((with_reducible refine kk ?_ ?_);·rfl)|simp -implicitDefEqProofs(disch:=first|omega|assumption)only[push_cast,simprocAttr,Zd,Zc,Ze,Zb,hl,hx,qw,qs,qb,qf,qt,qc,hadd,Yh,exs_hd,Xx,exs_tk,h1,he,ht,k7,k9]|(with_reducible first|refine cB ?_ ?_|refine oB ?_ ?_|refine dB ?_ ?_)<;>intro _
  have hmo:=Yy (s:=q) (n:=mxI 1 (compF m tk tn)) (by omega) hn.1
  with_reducible refine wla_loop m sc (as) has (fs:=fs) (fl:=fl) Ef hEm A c hE H hH (o0:=some (.mem [.agg [.int .i64 tk,.str tn]] 1 false 2)) (o2:=none) (o3:=none) (o4:=none) ho4 (v10:=.int .i64 (-1)) (wL Ef m sc c (as) (satA q (mxI 1 (compF m tk tn)))) ?_ (as) [] (satA q (mxI 1 (compF m tk tn))) none _ rfl rfl (by omega) hmo.2 (fun _=>rfl) (by simp [look,Za,Fl.full, *]) (by simp [look,Za,Fl.full, *]) (by simp [look,Za,Fl.full, *]) (by simp [look,Za,Fl.full, *]) (by simp [look,Za,Fl.full, *]) (by simp [look,Za,Fl.full, *]) (by simp [look,Za,Fl.full, *])
  intro t q2 o1 e2 b1 b2 ho1 k0 k5 k10
  subst e2
  repeat' first|(with_reducible first|refine cS ?_ ?_|refine oS ?_ ?_|refine dS ?_ ?_)<;>intro _|((with_reducible refine kk ?_ ?_);·rfl)|simp -implicitDefEqProofs(disch:=first|omega|assumption)only[push_cast,simprocAttr,Zd,Zc,Ze,Zb,k0,k5,k10,hw,hH,Zm,Zn,allMarks,List.all_cons,List.all_nil]|(with_reducible first|refine cB ?_ ?_|refine oB ?_ ?_|refine dB ?_ ?_)<;>intro _
include hm hEm in
set_option maxHeartbeats 8000000 in
theorem we_wf (o x tk er:Int) (nm tn:Str) (fs fl:Fl) (as:List Ex) (q:Int) (H:Heap) (h0:0≤q) (h1:¬ q≥1000000) (hH:heapLow (H.length+1) H=true) (has:as.length≤1048576) (hE:∀ a∈as,WEok Ef m sc A c a)
    (hx:∀ h,doCall E (callR E) 11 [.agg m.c,.vs fs (flds sc),.agg [.int .i64 7,.int .i64 o,.str nm,.int .i64 x,.vs fl (exs as)]] h=some (encR (⟨tk,tn⟩,er),h)) (he:er=0) (ht:takesF m 7 nm=false) (w0:¬ wordF nm=0) :
    doCall E (callR E) 98 [.ptr (0,0) 1 0 0,.agg m.c,.vs fs (flds sc),.agg [.int .i64 7,.int .i64 o,.str nm,.int .i64 x,.vs fl (exs as)]] (wH A q c H)=some (.tuple [],wH A (wL Ef m sc c (as) (satA q (mxI 1 (compF m tk tn)))) c H):=by
  have hl:=m.hm
  have hw:=fun s=>wO_low (k:=H.length+1) (A:=A) (s:=s) (c:=c)
  have qw:=fun h=>Xb nm h
  have qs:=fun h=>Yt m hm nm h
  have qb:=fun h=>blt_ok nm h
  have qf:=fun h=>Xk m hm nm h
  have qt:=fun h=>Yi m hm 7 o x nm fl as h
  have qc:=fun h=>Xi m hm tk tn h
  have hcb:=Yv m tk tn
  have ho:∀ k,[some (.mem [.agg [.int .i64 tk,.str tn]] 1 false 2),none,none,none,none].all (obLow k)=true:=fun k=>by simp [obLow,PV.lowL,PV.low]
  have ho4:∀ k,[some (.mem [.agg [.int .i64 tk,.str tn]] 1 false 2),none,none,none].all (obLow k)=true:=fun k=>by simp [obLow,PV.lowL,PV.low]
  have hadd:=fun n h3 h4=>X7 A q c n h0 (by omega) h3 h4 (H++[[some (.mem [.agg [.int .i64 tk,.str tn]] 1 false 2),none,none,none,none]]) (hPush hH ho)
  have hn:0≤mxI 1 (compF m tk tn)∧mxI 1 (compF m tk tn)≤1000:=by unfold mxI;split<;>omega
  have hadd:=hadd (mxI 1 (compF m tk tn)) hn.1 hn.2
  refine Z7 (pf:=p98) rfl rfl rfl rfl rfl (by simp [PV.lowL,PV.low]) ?_
  show kQ E _ (endM [] _ _ _) .norm { lvl:=H.length+1,tmps:=mk 168 [(0,.ptr (0,0) 1 0 0),(1,.agg m.c),(2,.vs fs (flds sc)),(3,.agg [.int .i64 7,.int .i64 o,.str nm,.int .i64 x,.vs fl (exs as)])],heap:=[wO A q c]::(H++[[none,none,none,none,none]]),defers:=[] }
  repeat' first|(with_reducible first|refine cS ?_ ?_|refine oS ?_ ?_|refine dS ?_ ?_)<;>intro _|((with_reducible refine kk ?_ ?_);·rfl)|simp -implicitDefEqProofs(disch:=first|omega|assumption)only[push_cast,simprocAttr,Zd,Zc,Ze,Zb,hl,hx,qw,qs,qb,qf,qt,qc,hadd,Yh,exs_hd,Xx,exs_tk,h1,he,ht,w0]|(with_reducible first|refine cB ?_ ?_|refine oB ?_ ?_|refine dB ?_ ?_)<;>intro _
  have hmo:=Yy (s:=q) (n:=mxI 1 (compF m tk tn)) (by omega) hn.1
  with_reducible refine wla_loop m sc (as) has (fs:=fs) (fl:=fl) Ef hEm A c hE H hH (o0:=some (.mem [.agg [.int .i64 tk,.str tn]] 1 false 2)) (o2:=none) (o3:=none) (o4:=none) ho4 (v10:=.int .i64 (-1)) (wL Ef m sc c (as) (satA q (mxI 1 (compF m tk tn)))) ?_ (as) [] (satA q (mxI 1 (compF m tk tn))) none _ rfl rfl (by omega) hmo.2 (fun _=>rfl) (by simp [look,Za,Fl.full, *]) (by simp [look,Za,Fl.full, *]) (by simp [look,Za,Fl.full, *]) (by simp [look,Za,Fl.full, *]) (by simp [look,Za,Fl.full, *]) (by simp [look,Za,Fl.full, *]) (by simp [look,Za,Fl.full, *])
  intro t q2 o1 e2 b1 b2 ho1 k0 k5 k10
  subst e2
  repeat' first|(with_reducible first|refine cS ?_ ?_|refine oS ?_ ?_|refine dS ?_ ?_)<;>intro _|((with_reducible refine kk ?_ ?_);·rfl)|simp -implicitDefEqProofs(disch:=first|omega|assumption)only[push_cast,simprocAttr,Zd,Zc,Ze,Zb,k0,k5,k10,hw,hH,Zm,Zn,allMarks,List.all_cons,List.all_nil]|(with_reducible first|refine cB ?_ ?_|refine oB ?_ ?_|refine dB ?_ ?_)<;>intro _
include hm hEm in
set_option maxHeartbeats 8000000 in
theorem we_sf (o x tk er:Int) (nm tn:Str) (fs fl:Fl) (as:List Ex) (q:Int) (H:Heap) (h0:0≤q) (h1:¬ q≥1000000) (hH:heapLow (H.length+1) H=true) (has:as.length≤1048576) (hE:∀ a∈as,WEok Ef m sc A c a)
    (hx:∀ h,doCall E (callR E) 11 [.agg m.c,.vs fs (flds sc),.agg [.int .i64 7,.int .i64 o,.str nm,.int .i64 x,.vs fl (exs as)]] h=some (encR (⟨tk,tn⟩,er),h)) (he:er=0) (ht:takesF m 7 nm=false) (w0:wordF nm=0) (s0:¬ stF m nm<0) :
    doCall E (callR E) 98 [.ptr (0,0) 1 0 0,.agg m.c,.vs fs (flds sc),.agg [.int .i64 7,.int .i64 o,.str nm,.int .i64 x,.vs fl (exs as)]] (wH A q c H)=some (.tuple [],wH A (wL Ef m sc c (as) (satA q (mxI 1 (compF m tk tn)))) c H):=by
  have hl:=m.hm
  have hw:=fun s=>wO_low (k:=H.length+1) (A:=A) (s:=s) (c:=c)
  have qw:=fun h=>Xb nm h
  have qs:=fun h=>Yt m hm nm h
  have qb:=fun h=>blt_ok nm h
  have qf:=fun h=>Xk m hm nm h
  have qt:=fun h=>Yi m hm 7 o x nm fl as h
  have qc:=fun h=>Xi m hm tk tn h
  have hcb:=Yv m tk tn
  have ho:∀ k,[some (.mem [.agg [.int .i64 tk,.str tn]] 1 false 2),none,none,none,none].all (obLow k)=true:=fun k=>by simp [obLow,PV.lowL,PV.low]
  have ho4:∀ k,[some (.mem [.agg [.int .i64 tk,.str tn]] 1 false 2),none,none,none].all (obLow k)=true:=fun k=>by simp [obLow,PV.lowL,PV.low]
  have hadd:=fun n h3 h4=>X7 A q c n h0 (by omega) h3 h4 (H++[[some (.mem [.agg [.int .i64 tk,.str tn]] 1 false 2),none,none,none,none]]) (hPush hH ho)
  have hn:0≤mxI 1 (compF m tk tn)∧mxI 1 (compF m tk tn)≤1000:=by unfold mxI;split<;>omega
  have hadd:=hadd (mxI 1 (compF m tk tn)) hn.1 hn.2
  refine Z7 (pf:=p98) rfl rfl rfl rfl rfl (by simp [PV.lowL,PV.low]) ?_
  show kQ E _ (endM [] _ _ _) .norm { lvl:=H.length+1,tmps:=mk 168 [(0,.ptr (0,0) 1 0 0),(1,.agg m.c),(2,.vs fs (flds sc)),(3,.agg [.int .i64 7,.int .i64 o,.str nm,.int .i64 x,.vs fl (exs as)])],heap:=[wO A q c]::(H++[[none,none,none,none,none]]),defers:=[] }
  repeat' first|(with_reducible first|refine cS ?_ ?_|refine oS ?_ ?_|refine dS ?_ ?_)<;>intro _|((with_reducible refine kk ?_ ?_);·rfl)|simp -implicitDefEqProofs(disch:=first|omega|assumption)only[push_cast,simprocAttr,Zd,Zc,Ze,Zb,hl,hx,qw,qs,qb,qf,qt,qc,hadd,Yh,exs_hd,Xx,exs_tk,h1,he,ht,w0,s0]|(with_reducible first|refine cB ?_ ?_|refine oB ?_ ?_|refine dB ?_ ?_)<;>intro _
  have hmo:=Yy (s:=q) (n:=mxI 1 (compF m tk tn)) (by omega) hn.1
  with_reducible refine wla_loop m sc (as) has (fs:=fs) (fl:=fl) Ef hEm A c hE H hH (o0:=some (.mem [.agg [.int .i64 tk,.str tn]] 1 false 2)) (o2:=none) (o3:=none) (o4:=none) ho4 (v10:=.int .i64 (-1)) (wL Ef m sc c (as) (satA q (mxI 1 (compF m tk tn)))) ?_ (as) [] (satA q (mxI 1 (compF m tk tn))) none _ rfl rfl (by omega) hmo.2 (fun _=>rfl) (by simp [look,Za,Fl.full, *]) (by simp [look,Za,Fl.full, *]) (by simp [look,Za,Fl.full, *]) (by simp [look,Za,Fl.full, *]) (by simp [look,Za,Fl.full, *]) (by simp [look,Za,Fl.full, *]) (by simp [look,Za,Fl.full, *])
  intro t q2 o1 e2 b1 b2 ho1 k0 k5 k10
  subst e2
  repeat' first|(with_reducible first|refine cS ?_ ?_|refine oS ?_ ?_|refine dS ?_ ?_)<;>intro _|((with_reducible refine kk ?_ ?_);·rfl)|simp -implicitDefEqProofs(disch:=first|omega|assumption)only[push_cast,simprocAttr,Zd,Zc,Ze,Zb,k0,k5,k10,hw,hH,Zm,Zn,allMarks,List.all_cons,List.all_nil]|(with_reducible first|refine cB ?_ ?_|refine oB ?_ ?_|refine dB ?_ ?_)<;>intro _
include hm hEm in
set_option maxHeartbeats 8000000 in
theorem we_bf (o x tk er:Int) (nm tn:Str) (fs fl:Fl) (as:List Ex) (q:Int) (H:Heap) (h0:0≤q) (h1:¬ q≥1000000) (hH:heapLow (H.length+1) H=true) (has:as.length≤1048576) (hE:∀ a∈as,WEok Ef m sc A c a)
    (hx:∀ h,doCall E (callR E) 11 [.agg m.c,.vs fs (flds sc),.agg [.int .i64 7,.int .i64 o,.str nm,.int .i64 x,.vs fl (exs as)]] h=some (encR (⟨tk,tn⟩,er),h)) (he:er=0) (ht:takesF m 7 nm=false) (w0:wordF nm=0) (s0:stF m nm<0) (b0:bltF nm=true) :
    doCall E (callR E) 98 [.ptr (0,0) 1 0 0,.agg m.c,.vs fs (flds sc),.agg [.int .i64 7,.int .i64 o,.str nm,.int .i64 x,.vs fl (exs as)]] (wH A q c H)=some (.tuple [],wH A (wL Ef m sc c (as) (satA q (mxI 1 (compF m tk tn)))) c H):=by
  have hl:=m.hm
  have hw:=fun s=>wO_low (k:=H.length+1) (A:=A) (s:=s) (c:=c)
  have qw:=fun h=>Xb nm h
  have qs:=fun h=>Yt m hm nm h
  have qb:=fun h=>blt_ok nm h
  have qf:=fun h=>Xk m hm nm h
  have qt:=fun h=>Yi m hm 7 o x nm fl as h
  have qc:=fun h=>Xi m hm tk tn h
  have hcb:=Yv m tk tn
  have ho:∀ k,[some (.mem [.agg [.int .i64 tk,.str tn]] 1 false 2),none,none,none,none].all (obLow k)=true:=fun k=>by simp [obLow,PV.lowL,PV.low]
  have ho4:∀ k,[some (.mem [.agg [.int .i64 tk,.str tn]] 1 false 2),none,none,none].all (obLow k)=true:=fun k=>by simp [obLow,PV.lowL,PV.low]
  have hadd:=fun n h3 h4=>X7 A q c n h0 (by omega) h3 h4 (H++[[some (.mem [.agg [.int .i64 tk,.str tn]] 1 false 2),none,none,none,none]]) (hPush hH ho)
  have hn:0≤mxI 1 (compF m tk tn)∧mxI 1 (compF m tk tn)≤1000:=by unfold mxI;split<;>omega
  have hadd:=hadd (mxI 1 (compF m tk tn)) hn.1 hn.2
  refine Z7 (pf:=p98) rfl rfl rfl rfl rfl (by simp [PV.lowL,PV.low]) ?_
  show kQ E _ (endM [] _ _ _) .norm { lvl:=H.length+1,tmps:=mk 168 [(0,.ptr (0,0) 1 0 0),(1,.agg m.c),(2,.vs fs (flds sc)),(3,.agg [.int .i64 7,.int .i64 o,.str nm,.int .i64 x,.vs fl (exs as)])],heap:=[wO A q c]::(H++[[none,none,none,none,none]]),defers:=[] }
  repeat' first|(with_reducible first|refine cS ?_ ?_|refine oS ?_ ?_|refine dS ?_ ?_)<;>intro _|((with_reducible refine kk ?_ ?_);·rfl)|simp -implicitDefEqProofs(disch:=first|omega|assumption)only[push_cast,simprocAttr,Zd,Zc,Ze,Zb,hl,hx,qw,qs,qb,qf,qt,qc,hadd,Yh,exs_hd,Xx,exs_tk,h1,he,ht,w0,s0,b0]|(with_reducible first|refine cB ?_ ?_|refine oB ?_ ?_|refine dB ?_ ?_)<;>intro _
  have hmo:=Yy (s:=q) (n:=mxI 1 (compF m tk tn)) (by omega) hn.1
  with_reducible refine wla_loop m sc (as) has (fs:=fs) (fl:=fl) Ef hEm A c hE H hH (o0:=some (.mem [.agg [.int .i64 tk,.str tn]] 1 false 2)) (o2:=none) (o3:=none) (o4:=none) ho4 (v10:=.int .i64 (-1)) (wL Ef m sc c (as) (satA q (mxI 1 (compF m tk tn)))) ?_ (as) [] (satA q (mxI 1 (compF m tk tn))) none _ rfl rfl (by omega) hmo.2 (fun _=>rfl) (by simp [look,Za,Fl.full, *]) (by simp [look,Za,Fl.full, *]) (by simp [look,Za,Fl.full, *]) (by simp [look,Za,Fl.full, *]) (by simp [look,Za,Fl.full, *]) (by simp [look,Za,Fl.full, *]) (by simp [look,Za,Fl.full, *])
  intro t q2 o1 e2 b1 b2 ho1 k0 k5 k10
  subst e2
  repeat' first|(with_reducible first|refine cS ?_ ?_|refine oS ?_ ?_|refine dS ?_ ?_)<;>intro _|((with_reducible refine kk ?_ ?_);·rfl)|simp -implicitDefEqProofs(disch:=first|omega|assumption)only[push_cast,simprocAttr,Zd,Zc,Ze,Zb,k0,k5,k10,hw,hH,Zm,Zn,allMarks,List.all_cons,List.all_nil]|(with_reducible first|refine cB ?_ ?_|refine oB ?_ ?_|refine dB ?_ ?_)<;>intro _
include hm hEm in
set_option maxHeartbeats 8000000 in
theorem we_bt (o x tk er:Int) (nm tn:Str) (fs fl:Fl) (as:List Ex) (q:Int) (H:Heap) (h0:0≤q) (h1:¬ q≥1000000) (hH:heapLow (H.length+1) H=true) (has:as.length≤1048576) (hE:∀ a∈as,WEok Ef m sc A c a)
    (hx:∀ h,doCall E (callR E) 11 [.agg m.c,.vs fs (flds sc),.agg [.int .i64 7,.int .i64 o,.str nm,.int .i64 x,.vs fl (exs as)]] h=some (encR (⟨tk,tn⟩,er),h)) (he:er=0) (ht:takesF m 7 nm=true) (hpos:1≤as.length) (w0:wordF nm=0) (s0:stF m nm<0) (b0:bltF nm=true) :
    doCall E (callR E) 98 [.ptr (0,0) 1 0 0,.agg m.c,.vs fs (flds sc),.agg [.int .i64 7,.int .i64 o,.str nm,.int .i64 x,.vs fl (exs as)]] (wH A q c H)=some (.tuple [],wH A (wL Ef m sc c (as.drop 1) (satA q (mxI 1 (compF m tk tn)))) c H):=by
  have hl:=m.hm
  have hw:=fun s=>wO_low (k:=H.length+1) (A:=A) (s:=s) (c:=c)
  have qw:=fun h=>Xb nm h
  have qs:=fun h=>Yt m hm nm h
  have qb:=fun h=>blt_ok nm h
  have qf:=fun h=>Xk m hm nm h
  have qt:=fun h=>Yi m hm 7 o x nm fl as h
  have qc:=fun h=>Xi m hm tk tn h
  have hcb:=Yv m tk tn
  have ho:∀ k,[some (.mem [.agg [.int .i64 tk,.str tn]] 1 false 2),none,none,none,none].all (obLow k)=true:=fun k=>by simp [obLow,PV.lowL,PV.low]
  have ho4:∀ k,[some (.mem [.agg [.int .i64 tk,.str tn]] 1 false 2),none,none,none].all (obLow k)=true:=fun k=>by simp [obLow,PV.lowL,PV.low]
  have hadd:=fun n h3 h4=>X7 A q c n h0 (by omega) h3 h4 (H++[[some (.mem [.agg [.int .i64 tk,.str tn]] 1 false 2),none,none,none,none]]) (hPush hH ho)
  have hn:0≤mxI 1 (compF m tk tn)∧mxI 1 (compF m tk tn)≤1000:=by unfold mxI;split<;>omega
  have hadd:=hadd (mxI 1 (compF m tk tn)) hn.1 hn.2
  have hb1:bound (.int .i64 1) as.length=some 1:=by simp [bound];omega
  refine Z7 (pf:=p98) rfl rfl rfl rfl rfl (by simp [PV.lowL,PV.low]) ?_
  show kQ E _ (endM [] _ _ _) .norm { lvl:=H.length+1,tmps:=mk 168 [(0,.ptr (0,0) 1 0 0),(1,.agg m.c),(2,.vs fs (flds sc)),(3,.agg [.int .i64 7,.int .i64 o,.str nm,.int .i64 x,.vs fl (exs as)])],heap:=[wO A q c]::(H++[[none,none,none,none,none]]),defers:=[] }
  repeat' first|(with_reducible first|refine cS ?_ ?_|refine oS ?_ ?_|refine dS ?_ ?_)<;>intro _|((with_reducible refine kk ?_ ?_);·rfl)|simp -implicitDefEqProofs(disch:=first|omega|assumption)only[push_cast,simprocAttr,Zd,Zc,Ze,Zb,hl,hx,qw,qs,qb,qf,qt,qc,hadd,Yh,exs_hd,Xx,exs_tk,h1,he,ht,boundsE,hb1,Option.isSome_none,Option.isNone_none,w0,s0,b0]|(with_reducible first|refine cB ?_ ?_|refine oB ?_ ?_|refine dB ?_ ?_)<;>intro _
  have hmo:=Yy (s:=q) (n:=mxI 1 (compF m tk tn)) (by omega) hn.1
  with_reducible refine wla_loop m sc (as.drop 1) (by simp;omega) (fs:=fs) (fl:=if fl=.nil then .nil else if fl.full&&Nat.beq as.length as.length then .clip else .any) Ef hEm A c (fun a ha=>hE a (List.mem_of_mem_drop ha)) H hH (o0:=some (.mem [.agg [.int .i64 tk,.str tn]] 1 false 2)) (o2:=none) (o3:=none) (o4:=none) ho4 (v10:=.int .i64 (-1)) (wL Ef m sc c (as.drop 1) (satA q (mxI 1 (compF m tk tn)))) ?_ (as.drop 1) [] (satA q (mxI 1 (compF m tk tn))) none _ rfl rfl (by omega) hmo.2 (fun _=>rfl) (by simp [look,Za,Fl.full, *]) (by simp [look,Za,Fl.full, *]) (by simp [look,Za,Fl.full, *]) (by simp [look,Za,Fl.full, *]) (by simp [look,Za,Fl.full, *]) (by simp [look,Za,Fl.full, *]) (by simp [look,Za,Fl.full, *])
  intro t q2 o1 e2 b1 b2 ho1 k0 k5 k10
  subst e2
  repeat' first|(with_reducible first|refine cS ?_ ?_|refine oS ?_ ?_|refine dS ?_ ?_)<;>intro _|((with_reducible refine kk ?_ ?_);·rfl)|simp -implicitDefEqProofs(disch:=first|omega|assumption)only[push_cast,simprocAttr,Zd,Zc,Ze,Zb,k0,k5,k10,hw,hH,Zm,Zn,allMarks,List.all_cons,List.all_nil]|(with_reducible first|refine cB ?_ ?_|refine oB ?_ ?_|refine dB ?_ ?_)<;>intro _
include hm hEm in
set_option maxHeartbeats 8000000 in
theorem we_nf (o x tk er:Int) (nm tn:Str) (fs fl:Fl) (as:List Ex) (q:Int) (H:Heap) (h0:0≤q) (h1:¬ q≥1000000) (hH:heapLow (H.length+1) H=true) (has:as.length≤1048576) (hE:∀ a∈as,WEok Ef m sc A c a)
    (hx:∀ h,doCall E (callR E) 11 [.agg m.c,.vs fs (flds sc),.agg [.int .i64 7,.int .i64 o,.str nm,.int .i64 x,.vs fl (exs as)]] h=some (encR (⟨tk,tn⟩,er),h)) (he:er=0) (ht:takesF m 7 nm=false) (w0:wordF nm=0) (s0:stF m nm<0) (b0:bltF nm=false) (hat:fnF m nm<0) (hat2:¬ fnF m nm≥0) :
    doCall E (callR E) 98 [.ptr (0,0) 1 0 0,.agg m.c,.vs fs (flds sc),.agg [.int .i64 7,.int .i64 o,.str nm,.int .i64 x,.vs fl (exs as)]] (wH A q c H)=some (.tuple [],wH A (wL Ef m sc c (as) (satA q (mxI 1 (compF m tk tn)))) c H):=by
  have hl:=m.hm
  have hw:=fun s=>wO_low (k:=H.length+1) (A:=A) (s:=s) (c:=c)
  have qw:=fun h=>Xb nm h
  have qs:=fun h=>Yt m hm nm h
  have qb:=fun h=>blt_ok nm h
  have qf:=fun h=>Xk m hm nm h
  have qt:=fun h=>Yi m hm 7 o x nm fl as h
  have qc:=fun h=>Xi m hm tk tn h
  have hcb:=Yv m tk tn
  have ho:∀ k,[some (.mem [.agg [.int .i64 tk,.str tn]] 1 false 2),none,none,none,none].all (obLow k)=true:=fun k=>by simp [obLow,PV.lowL,PV.low]
  have ho4:∀ k,[some (.mem [.agg [.int .i64 tk,.str tn]] 1 false 2),none,none,none].all (obLow k)=true:=fun k=>by simp [obLow,PV.lowL,PV.low]
  have hadd:=fun n h3 h4=>X7 A q c n h0 (by omega) h3 h4 (H++[[some (.mem [.agg [.int .i64 tk,.str tn]] 1 false 2),none,none,none,none]]) (hPush hH ho)
  have hn:0≤mxI 1 (compF m tk tn)∧mxI 1 (compF m tk tn)≤1000:=by unfold mxI;split<;>omega
  have hadd:=hadd (mxI 1 (compF m tk tn)) hn.1 hn.2
  refine Z7 (pf:=p98) rfl rfl rfl rfl rfl (by simp [PV.lowL,PV.low]) ?_
  show kQ E _ (endM [] _ _ _) .norm { lvl:=H.length+1,tmps:=mk 168 [(0,.ptr (0,0) 1 0 0),(1,.agg m.c),(2,.vs fs (flds sc)),(3,.agg [.int .i64 7,.int .i64 o,.str nm,.int .i64 x,.vs fl (exs as)])],heap:=[wO A q c]::(H++[[none,none,none,none,none]]),defers:=[] }
  repeat' first|(with_reducible first|refine cS ?_ ?_|refine oS ?_ ?_|refine dS ?_ ?_)<;>intro _|((with_reducible refine kk ?_ ?_);·rfl)|simp -implicitDefEqProofs(disch:=first|omega|assumption)only[push_cast,simprocAttr,Zd,Zc,Ze,Zb,hl,hx,qw,qs,qb,qf,qt,qc,hadd,Yh,exs_hd,Xx,exs_tk,h1,he,ht,w0,s0,b0,hat,hat2]|(with_reducible first|refine cB ?_ ?_|refine oB ?_ ?_|refine dB ?_ ?_)<;>intro _
  have hmo:=Yy (s:=q) (n:=mxI 1 (compF m tk tn)) (by omega) hn.1
  with_reducible refine wla_loop m sc (as) has (fs:=fs) (fl:=fl) Ef hEm A c hE H hH (o0:=some (.mem [.agg [.int .i64 tk,.str tn]] 1 false 2)) (o2:=none) (o3:=none) (o4:=none) ho4 (v10:=.int .i64 (fnF m nm)) (wL Ef m sc c (as) (satA q (mxI 1 (compF m tk tn)))) ?_ (as) [] (satA q (mxI 1 (compF m tk tn))) none _ rfl rfl (by omega) hmo.2 (fun _=>rfl) (by simp [look,Za,Fl.full, *]) (by simp [look,Za,Fl.full, *]) (by simp [look,Za,Fl.full, *]) (by simp [look,Za,Fl.full, *]) (by simp [look,Za,Fl.full, *]) (by simp [look,Za,Fl.full, *]) (by simp [look,Za,Fl.full, *])
  intro t q2 o1 e2 b1 b2 ho1 k0 k5 k10
  subst e2
  repeat' first|(with_reducible first|refine cS ?_ ?_|refine oS ?_ ?_|refine dS ?_ ?_)<;>intro _|((with_reducible refine kk ?_ ?_);·rfl)|simp -implicitDefEqProofs(disch:=first|omega|assumption)only[push_cast,simprocAttr,Zd,Zc,Ze,Zb,k0,k5,k10,hw,hH,Zm,Zn,allMarks,List.all_cons,List.all_nil,hat]|(with_reducible first|refine cB ?_ ?_|refine oB ?_ ?_|refine dB ?_ ?_)<;>intro _
include hm hEm in
set_option maxHeartbeats 8000000 in
theorem we_c (o x tk er:Int) (nm tn:Str) (fs fl:Fl) (as:List Ex) (q:Int) (H:Heap) (h0:0≤q) (h1:¬ q≥1000000) (hH:heapLow (H.length+1) H=true) (has:as.length≤1048576) (hE:∀ a∈as,WEok Ef m sc A c a)
    (hx:∀ h,doCall E (callR E) 11 [.agg m.c,.vs fs (flds sc),.agg [.int .i64 7,.int .i64 o,.str nm,.int .i64 x,.vs fl (exs as)]] h=some (encR (⟨tk,tn⟩,er),h)) (he:er=0) (ht:takesF m 7 nm=false) (w0:wordF nm=0) (s0:stF m nm<0) (b0:bltF nm=false) (i:Nat) (hat:fnF m nm=i) (hca:c>A) :
    doCall E (callR E) 98 [.ptr (0,0) 1 0 0,.agg m.c,.vs fs (flds sc),.agg [.int .i64 7,.int .i64 o,.str nm,.int .i64 x,.vs fl (exs as)]] (wH A q c H)=some (.tuple [],wH A (satA q 1) c H):=by
  have hl:=m.hm
  have hw:=fun s=>wO_low (k:=H.length+1) (A:=A) (s:=s) (c:=c)
  have qw:=fun h=>Xb nm h
  have qs:=fun h=>Yt m hm nm h
  have qb:=fun h=>blt_ok nm h
  have qf:=fun h=>Xk m hm nm h
  have qt:=fun h=>Yi m hm 7 o x nm fl as h
  have qc:=fun h=>Xi m hm tk tn h
  have hcb:=Yv m tk tn
  have ho:∀ k,[some (.mem [.agg [.int .i64 tk,.str tn]] 1 false 2),none,none,none,none].all (obLow k)=true:=fun k=>by simp [obLow,PV.lowL,PV.low]
  have ho4:∀ k,[some (.mem [.agg [.int .i64 tk,.str tn]] 1 false 2),none,none,none].all (obLow k)=true:=fun k=>by simp [obLow,PV.lowL,PV.low]
  have hadd:=fun n h3 h4=>X7 A q c n h0 (by omega) h3 h4 (H++[[some (.mem [.agg [.int .i64 tk,.str tn]] 1 false 2),none,none,none,none]]) (hPush hH ho)
  have hadd:=hadd 1 (by omega) (by omega)
  have i0:(i:Int)≥0:=by omega
  refine Z7 (pf:=p98) rfl rfl rfl rfl rfl (by simp [PV.lowL,PV.low]) ?_
  show kQ E _ (endM [] _ _ _) .norm { lvl:=H.length+1,tmps:=mk 168 [(0,.ptr (0,0) 1 0 0),(1,.agg m.c),(2,.vs fs (flds sc)),(3,.agg [.int .i64 7,.int .i64 o,.str nm,.int .i64 x,.vs fl (exs as)])],heap:=[wO A q c]::(H++[[none,none,none,none,none]]),defers:=[] }
  repeat' first|(with_reducible first|refine cS ?_ ?_|refine oS ?_ ?_|refine dS ?_ ?_)<;>intro _|((with_reducible refine kk ?_ ?_);·rfl)|simp -implicitDefEqProofs(disch:=first|omega|assumption)only[push_cast,simprocAttr,Zd,Zc,Ze,Zb,hl,hx,qw,qs,qb,qf,qt,qc,hadd,Yh,exs_hd,Xx,exs_tk,h1,he,w0,s0,b0,hat,i0,hca,hw,hH,Zm,Zn,allMarks,List.all_cons,List.all_nil]|(with_reducible first|refine cB ?_ ?_|refine oB ?_ ?_|refine dB ?_ ?_)<;>intro _
include hm hEm in
set_option maxHeartbeats 8000000 in
theorem we_f (o x tk er:Int) (nm tn:Str) (fs fl:Fl) (as:List Ex) (q:Int) (H:Heap) (h0:0≤q) (h1:¬ q≥1000000) (hH:heapLow (H.length+1) H=true) (has:as.length≤1048576) (hE:∀ a∈as,WEok Ef m sc A c a)
    (hx:∀ h,doCall E (callR E) 11 [.agg m.c,.vs fs (flds sc),.agg [.int .i64 7,.int .i64 o,.str nm,.int .i64 x,.vs fl (exs as)]] h=some (encR (⟨tk,tn⟩,er),h)) (he:er=0) (ht:takesF m 7 nm=false) (w0:wordF nm=0) (s0:stF m nm<0) (b0:bltF nm=false) (i:Nat) (hat:fnF m nm=i) (hca:¬ c>A) (f:Fun') (hfi:m.fs[i]?=some f) (hfp:f.ps.length≤1048576) (hc0:0≤c) (hc1:c≤4194304)
    (hBm:BMono Bf) (hB:WBok Bf (m.win i) f.ps A (c+1) f.bodyS) (hR:∀ q,WEok Ef (m.win i) (Bf (m.win i) f.ps f.bodyS q (c+1)).2 A (c+1) f.retE) :
    doCall E (callR E) 98 [.ptr (0,0) 1 0 0,.agg m.c,.vs fs (flds sc),.agg [.int .i64 7,.int .i64 o,.str nm,.int .i64 x,.vs fl (exs as)]] (wH A q c H)=some (.tuple [],wH A (wF Ef Bf m i (wL Ef m sc c as (satA q (mxI 1 (compF m tk tn)))) c) c H):=by
  have hl:=m.hm
  have hw:=fun s=>wO_low (k:=H.length+1) (A:=A) (s:=s) (c:=c)
  have qw:=fun h=>Xb nm h
  have qs:=fun h=>Yt m hm nm h
  have qb:=fun h=>blt_ok nm h
  have qf:=fun h=>Xk m hm nm h
  have qt:=fun h=>Yi m hm 7 o x nm fl as h
  have qc:=fun h=>Xi m hm tk tn h
  have hcb:=Yv m tk tn
  have ho:∀ k,[some (.mem [.agg [.int .i64 tk,.str tn]] 1 false 2),none,none,none,none].all (obLow k)=true:=fun k=>by simp [obLow,PV.lowL,PV.low]
  have ho4:∀ k,[some (.mem [.agg [.int .i64 tk,.str tn]] 1 false 2),none,none,none].all (obLow k)=true:=fun k=>by simp [obLow,PV.lowL,PV.low]
  have hadd:=fun n h3 h4=>X7 A q c n h0 (by omega) h3 h4 (H++[[some (.mem [.agg [.int .i64 tk,.str tn]] 1 false 2),none,none,none,none]]) (hPush hH ho)
  have hn:0≤mxI 1 (compF m tk tn)∧mxI 1 (compF m tk tn)≤1000:=by unfold mxI;split<;>omega
  have hadd:=hadd (mxI 1 (compF m tk tn)) hn.1 hn.2
  have i0:(i:Int)≥0:=by omega
  have i1:¬ (i:Int)<0:=by omega
  have hlt:i<m.fs.length:=by
    rcases Nat.lt_or_ge i m.fs.length with h|h
    · exact h
    · rw [List.getElem?_eq_none h] at hfi;cases hfi
  have hg:(funs m.fs)[i]?=some (.agg (c10 f)):=by rw [funs,List.getElem?_map,hfi,Option.map_some,f.v10]
  have hit:(i:Int).toNat=i:=Int.toNat_natCast i
  have qn:=fun h=>win_ok m i (by omega) h
  have hwl:=(m.win i).hm
  have e1:c+1 - 1=c:=by omega
  refine Z7 (pf:=p98) rfl rfl rfl rfl rfl (by simp [PV.lowL,PV.low]) ?_
  show kQ E _ (endM [] _ _ _) .norm { lvl:=H.length+1,tmps:=mk 168 [(0,.ptr (0,0) 1 0 0),(1,.agg m.c),(2,.vs fs (flds sc)),(3,.agg [.int .i64 7,.int .i64 o,.str nm,.int .i64 x,.vs fl (exs as)])],heap:=[wO A q c]::(H++[[none,none,none,none,none]]),defers:=[] }
  repeat' first|(with_reducible first|refine cS ?_ ?_|refine oS ?_ ?_|refine dS ?_ ?_)<;>intro _|((with_reducible refine kk ?_ ?_);·rfl)|simp -implicitDefEqProofs(disch:=first|omega|assumption)only[push_cast,simprocAttr,Zd,Zc,Ze,Zb,hl,hx,qw,qs,qb,qf,qt,qc,hadd,Yh,exs_hd,Xx,exs_tk,h1,he,w0,s0,b0,hat,i0,hca,ht]|(with_reducible first|refine cB ?_ ?_|refine oB ?_ ?_|refine dB ?_ ?_)<;>intro _
  have hmo:=Yy (s:=q) (n:=mxI 1 (compF m tk tn)) (by omega) hn.1
  with_reducible refine wla_loop m sc (as) has (fs:=fs) (fl:=fl) Ef hEm A c hE H hH (o0:=some (.mem [.agg [.int .i64 tk,.str tn]] 1 false 2)) (o2:=none) (o3:=none) (o4:=none) ho4 (v10:=.int .i64 (i)) (wL Ef m sc c (as) (satA q (mxI 1 (compF m tk tn)))) ?_ (as) [] (satA q (mxI 1 (compF m tk tn))) none _ rfl rfl (by omega) hmo.2 (fun _=>rfl) (by simp [look,Za,Fl.full, *]) (by simp [look,Za,Fl.full, *]) (by simp [look,Za,Fl.full, *]) (by simp [look,Za,Fl.full, *]) (by simp [look,Za,Fl.full, *]) (by simp [look,Za,Fl.full, *]) (by simp [look,Za,Fl.full, *])
  intro t q2 o1 e2 b1 b2 ho1 k0 k5 k10
  subst e2
  obtain ⟨Q2,hQ2⟩:∃ Q2,Q2=wL Ef m sc c as (satA q (mxI 1 (compF m tk tn))):=⟨_,rfl⟩
  rw [← hQ2] at b1 b2 ⊢
  have hLo:∀ k,[some (.mem [.agg [.int .i64 tk,.str tn]] 1 false 2),o1,some (.mem [.agg (c10 f)] 1 false 10),some (.mem [.agg (m.win i).c] 1 false 9)].all (obLow k)=true:=fun k=>by
    have h1:=ho1 k
    have h2:=PV.lowL_k (k:=k) _ hwl
    simp only [List.all_cons,List.all_nil,h1,Bool.and_true,Bool.true_and]
    simp [obLow,PV.lowL,PV.low,h2]
  have hLo5:∀ k,[some (.mem [.agg [.int .i64 tk,.str tn]] 1 false 2),o1,some (.mem [.agg (c10 f)] 1 false 10),some (.mem [.agg (m.win i).c] 1 false 9),none].all (obLow k)=true:=fun k=>by
    have h1:=ho1 k
    have h2:=PV.lowL_k (k:=k) _ hwl
    simp only [List.all_cons,List.all_nil,h1,Bool.and_true,Bool.true_and]
    simp [obLow,PV.lowL,PV.low,h2]
  obtain ⟨fl',hq47⟩:=hB .any f.fb Q2 (H++[[some (.mem [.agg [.int .i64 tk,.str tn]] 1 false 2),o1,some (.mem [.agg (c10 f)] 1 false 10),some (.mem [.agg (m.win i).c] 1 false 9),none]]) b1 b2 (hPush hH hLo5)
  have m1:=hBm (m.win i) f.ps f.bodyS Q2 (c+1) b2
  have hq98:=hR Q2 fl' _ (H++[[some (.mem [.agg [.int .i64 tk,.str tn]] 1 false 2),o1,some (.mem [.agg (c10 f)] 1 false 10),some (.mem [.agg (m.win i).c] 1 false 9),none]]) (by omega) m1.2 (hPush hH hLo5)
  have m2:=hEm (m.win i) (Bf (m.win i) f.ps f.bodyS Q2 (c+1)).2 f.retE _ (c+1) m1.2
  rw [f.retE.c_eq] at hq98
  repeat' first|(with_reducible first|refine cS ?_ ?_|refine oS ?_ ?_|refine dS ?_ ?_)<;>intro _|((with_reducible refine kk ?_ ?_);·rfl)|simp -implicitDefEqProofs(disch:=first|omega|assumption)only[push_cast,simprocAttr,Zd,Zc,Ze,Zb,k0,k5,k10,i1,hl,hit,hg,hwl,qn,hq47,hq98,e1,pf134,pp134,clone_nn,clone_nil,Xs,Xt,flds_nr,Y5,hfp,Yp,Yl,Yk,Yj,Yg,Ys,Yf,stabG,stabS,Z1,Yb,Z0,Zt,Zy,Z9,Ya,Zz,Zu,Zp]|(with_reducible first|refine cB ?_ ?_|refine oB ?_ ?_|refine dB ?_ ?_)<;>intro _|with_reducible first|refine Z2 ?_ ?_|refine Z3 (by decide) ?_|refine Z4 (by decide) ?_ ?_|exact Z5|refine Zx ?_|refine Zq ?_
  with_reducible refine wpa_loop m hm f.ps hfp (f:=f.fl) A c H hH (o0:=some (.mem [.agg [.int .i64 tk,.str tn]] 1 false 2)) (o1:=o1) (o2:=some (.mem [.agg (c10 f)] 1 false 10)) (o3:=some (.mem [.agg (m.win i).c] 1 false 9)) hLo (wF Ef Bf m i Q2 c) ?_ f.ps [] (Ef (m.win i) (Bf (m.win i) f.ps f.bodyS Q2 (c+1)).2 f.retE (Bf (m.win i) f.ps f.bodyS Q2 (c+1)).1 (c+1)) none _ rfl (by rw [wF,if_neg i1,hit,hfi]) (by omega) m2.2 (by simp [look,Za, *]) (by simp [look,Za, *]) (by simp [look,Za, *]) (by simp [look,Za, *]) (by simp [look,Za, *])
  intro t' q4 o4 e4
  subst e4
  repeat' first|(with_reducible first|refine cS ?_ ?_|refine oS ?_ ?_|refine dS ?_ ?_)<;>intro _|((with_reducible refine kk ?_ ?_);·rfl)|simp -implicitDefEqProofs(disch:=first|omega|assumption)only[push_cast,simprocAttr,Zd,Zc,Ze,Zb,hw,hH,Zm,Zn,allMarks,List.all_cons,List.all_nil]|(with_reducible first|refine cB ?_ ?_|refine oB ?_ ?_|refine dB ?_ ?_)<;>intro _
end
end
section
theorem flds_tkl {l:List Fld}:(flds l).take l.length=flds l:=List.take_of_length_le (by rw [flds_len];exact Nat.le_refl _)
theorem clip_ok (fs:Fl) (sc:List Fld) (h:Heap):doCall E (callR E) 99 [.vs fs (flds sc)] h=some (.vs (if fs=.nil then .nil else .clip) (flds sc),h):=by
  have hb:bound (.int .i64 sc.length) sc.length=some sc.length:=by simp [bound]
  refine Zg (pf:=p99) rfl rfl rfl rfl (by simp [PV.lowL,PV.low]) (by simp [PV.low,PV.lowL]) ?_ h
  show kQ E _ (endQ [⟨2,none⟩] _) .norm { lvl:=0,tmps:=mk 9 [(0,.vs fs (flds sc))],heap:=[[]],defers:=[] }
  repeat' first|(with_reducible first|refine cS ?_ ?_|refine oS ?_ ?_|refine dS ?_ ?_)<;>intro _|((with_reducible refine kk ?_ ?_);·rfl)|simp -implicitDefEqProofs(disch:=first|omega|assumption)only[push_cast,simprocAttr,Zd,Zc,Ze,Zb,boundsE,hb,Y5,flds_tkl,Option.isSome_some,Option.isNone_some]|(with_reducible first|refine cB ?_ ?_|refine oB ?_ ?_|refine dB ?_ ?_)<;>intro _
theorem clip_full {fs:Fl}:(if fs=.nil then Fl.nil else Fl.clip).full=true:=by split<;>rfl
set_option maxHeartbeats 16000000 in
theorem wbl_loop (m:Mod) (hm:m.Ok) (l:List St) (hll:l.length≤1048576) {f:Fl} (A c:Int) (Ef:EF) (Bf:BF) (hEm:EMono Ef) (hBm:BMono Bf) (hsz:∀ s∈l,s.sz≤1048576) (hE:∀ s∈l,∀ sc:List Fld,sc.length≤1048576→WEok Ef m sc A c s.value∧WEok Ef m sc A c s.target) (hB:∀ s∈l,∀ sc:List Fld,sc.length+s.sz≤1048576→WBok Bf m sc A c s.body∧WBok Bf m sc A c s.els) (H:Heap) (hH:heapLow (H.length+1) H=true) (fin:Int × List Fld) {ks:List KI} {Q:PEx→Fr→Prop}
    (hn:∀ t (q:Int) (sc:List Fld) (fs:Fl) (o0 o1:Option Ob),fin=(q,sc)→look t 2=.vs fs (flds sc)→kQ E ks Q .norm { lvl:=H.length+1,tmps:=mk 106 t,heap:=wH A q c (H++[[o0,o1]]),defers:=[] }) :
    ∀ (rest pre:List St) (q:Int) (sc:List Fld) (fs:Fl) (o0 o1:Option Ob) (t:List (Nat × PV)),l=pre++rest→(wB' Ef Bf m c sc rest q=fin)→(0≤q)→(q≤1000000)→(sc.length+szS rest≤1048576)→(∀ k,[o0,o1].all (obLow k)=true) →
      look t 0=.ptr (0,0) 1 0 0→look t 2=.vs fs (flds sc)→look t 5=.ip m.c→look t 13=.vs f (sts l)→look t 14=.int .i64 l.length→look t 15=.int .i64 pre.length →
      kQ E (.code p47l0::.blk 0::ks) Q .norm { lvl:=H.length+1,tmps:=mk 106 t,heap:=wH A q c (H++[[o0,o1]]),defers:=[] }:=by
  intro rest
  have h1':=m.hm
  induction rest with
  | nil =>
    intro pre q sc fs o0 o1 t hl hi0 hi1 hi2 hi3 hi4 h0 h2 h5 h13 h14 h15
    have e:l.length=pre.length:=by rw [hl];simp
    refine loopK' (c:=p47l0) rfl ?_
    repeat' first|(with_reducible first|refine cS ?_ ?_|refine oS ?_ ?_|refine dS ?_ ?_)<;>intro _|((with_reducible refine kk ?_ ?_);·rfl)|simp -implicitDefEqProofs(disch:=first|omega|assumption)only[push_cast,simprocAttr,Zd,Zc,Ze,Zb,h0,h2,h5,h13,h14,h15,e,Y8]|(with_reducible first|refine cB ?_ ?_|refine oB ?_ ?_|refine dB ?_ ?_)<;>intro _
    exact hn _ _ _ fs _ _ (by rw [← hi0];rfl) (by simp [look,Za,h2])
  | cons s r ih =>
    intro pre q sc fs o0 o1 t hl hi0 hi1 hi2 hi3 hi4 h0 h2 h5 h13 h14 h15
    have e:l.length=pre.length+r.length+1:=by rw [hl];simp;omega
    have hg:(sts l)[pre.length]?=some (.agg [.int .i64 s.kind,.str s.name,.int .i64 s.ty.kind,.str s.ty.name,.int .i64 s.target.kind,.int .i64 s.target.op,.str s.target.name,.int .i64 s.target.value,.vs s.target.fl (exs s.target.args),.int .i64 s.value.kind,.int .i64 s.value.op,.str s.value.name,.int .i64 s.value.value,.vs s.value.fl (exs s.value.args),.int .i64 s.count,.vs s.fb (sts s.body),.vs s.fe (sts s.els)]):=by rw [hl,Xq,← s.c17];exact Yd _ _ _ _
    have hsc:sc.length≤1048576:=by omega
    have hss:=hsz s (by rw [hl];simp)
    have hs2:=s.sz_eq
    simp only [szS] at hi3
    obtain ⟨g0,hg0⟩:∃ g0,nextGen (wH A q c (H++[[o0,o1]])) (H.length+1,0)=g0:=⟨_,rfl⟩
    obtain ⟨g1,hg1⟩:∃ g1,nextGen (wH A q c (H++[[o0,o1]])) (H.length+1,1)=g1:=⟨_,rfl⟩
    simp only [push_cast] at hg0 hg1
    have ho1:∀ k,obLow k o1=true:=fun k=>by have:=hi4 k;simp only [List.all_cons,List.all_nil,Bool.and_eq_true,Bool.and_true] at this;exact this.2
    have hc:∀ k,obLow k (some (.mem [.agg (c17 s)] g0 false 17))=true:=fun k=>by simp [obLow,PV.lowL,PV.low]
    have hP:∀ o,(∀ k,obLow k o=true)→heapLow ((H++[[some (.mem [.agg (c17 s)] g0 false 17),o]]).length+1) (H++[[some (.mem [.agg (c17 s)] g0 false 17),o]])=true:=fun o ho=>hPush hH fun k=>by simp only [List.all_cons,List.all_nil,hc,ho,Bool.and_true]
    have hx:=fun h=>exprtype_ok _ s.value (Nat.le_refl _) (by omega) m hm fs sc hsc h
    obtain ⟨tk,tn,er,het⟩:∃ tk tn er,exprF m sc s.value=(⟨tk,tn⟩,er):=⟨_,_,_,rfl⟩
    have hqc:=fun h=>Xi m hm tk tn h
    have hcb:=Yv m tk tn
    have hgo:¬ q≥1000000→wB' Ef Bf m c (addF sc s) r (wS Ef Bf m sc s q c)=fin:=fun h=>by rw [← hi0,wB',if_neg h]
    have hsm:=wS_mono hEm hBm (m:=m) (sc:=sc) (st:=s) (c:=c) hi2
    have hadl:(addF sc s).length+szS r≤1048576:=by
      have:(addF sc s).length≤sc.length+1:=by unfold addF;split<;>simp
      omega
    by_cases hq:q≥1000000
    · refine loopK' (c:=p47l0) rfl ?_
      repeat' first|(with_reducible first|refine cS ?_ ?_|refine oS ?_ ?_|refine dS ?_ ?_)<;>intro _|((with_reducible refine kk ?_ ?_);·rfl)|simp -implicitDefEqProofs(disch:=first|omega|assumption)only[push_cast,simprocAttr,Zd,Zc,Ze,Zb,h0,h2,h5,h13,h14,h15,hg,hq]|(with_reducible first|refine cB ?_ ?_|refine oB ?_ ?_|refine dB ?_ ?_)<;>intro _
      exact hn _ _ _ fs _ _ (by rw [← hi0,wB',if_pos hq]) (by simp [look,Za,h2])
    by_cases k3:s.kind=3
    · have y3:(s.kind=3)=True:=eq_true k3
      have k1:¬ s.kind=1:=by omega
      have k2:¬ s.kind=2:=by omega
      have qa:=X7 A q c 1 hi1 hi2 (by omega) (by omega) _ (hP o1 ho1)
      have b1:=Yy hi2 (n:=1) (by omega)
      have qe:=(hE s (by rw [hl];simp) sc hsc).1 fs (satA q 1) _ (by omega) b1.2 (hP o1 ho1)
      have b2:=hEm m sc s.value (satA q 1) c b1.2
      obtain ⟨f1,qb⟩:=(hB s (by rw [hl];simp) sc (by omega)).1 fs s.fb _ _ (by omega) b2.2 (hP o1 ho1)
      have b3:=hBm m sc s.body _ c b2.2
      obtain ⟨f2,qc⟩:=(hB s (by rw [hl];simp) sc (by omega)).2 fs s.fe _ _ (by omega) b3.2 (hP o1 ho1)
      rw [s.value.c_eq] at qe
      have hw:wS Ef Bf m sc s q c=(Bf m sc s.els (Bf m sc s.body (Ef m sc s.value (satA q 1) c) c).1 c).1:=by rw [wS,if_neg (by omega),if_pos k3]
      refine loopK' (c:=p47l0) rfl ?_
      repeat' first|(with_reducible first|refine cS ?_ ?_|refine oS ?_ ?_|refine dS ?_ ?_)<;>intro _|((with_reducible refine kk ?_ ?_);·rfl)|simp -implicitDefEqProofs(disch:=first|omega|assumption)only[push_cast,simprocAttr,Zd,Zc,Ze,Zb,h0,h2,h5,h13,h14,h15,hg,h1',hq,hg0,k1,k2,y3,qa,qe,qb,qc]|(with_reducible first|refine cB ?_ ?_|refine oB ?_ ?_|refine dB ?_ ?_)<;>intro _
      rw [← hw]
      refine ih (pre++[s]) (wS Ef Bf m sc s q c) sc fs _ _ _ (by simp [hl]) (by rw [← hgo hq,addF,if_neg k1]) (by omega) hsm.2 (by omega) (by intro k;simp only [List.all_cons,List.all_nil,hc,ho1,Bool.and_true]) (by simp [look,Za,h0]) (by simp [look,Za,h2]) (by simp [look,Za,h5]) (by simp [look,Za,h13]) (by simp [look,Za,h14]) (by simp [look,Za,h15])
    by_cases k12:s.kind=1∨s.kind=2
    · have hT:∀ k,obLow k (some (.mem [.agg [.int .i64 tk,.str tn]] g1 false 2))=true:=fun k=>by simp [obLow,PV.lowL,PV.low]
      rw [het,s.value.c_eq] at hx
      by_cases k2:s.kind=2
      · have y:(s.kind=2)=True:=eq_true k2
        have k1:¬ s.kind=1:=by omega
        by_cases he:er=0
        · subst he
          have he:(0:Int)=0:=rfl
          have b1:q≤(satA q (compF m tk tn))∧(satA q (compF m tk tn))≤1000000:=Yy hi2 hcb.1
          have qe:=(hE s (by rw [hl];simp) sc hsc).1 fs (satA q (compF m tk tn)) _ (by omega) b1.2 (hP _ hT)
          have b2:=hEm m sc s.value (satA q (compF m tk tn)) c b1.2
          rw [s.value.c_eq] at qe
          have qa:=X7 A q c (compF m tk tn) hi1 hi2 hcb.1 hcb.2 _ (hP _ hT)
          have qg:=(hE s (by rw [hl];simp) sc hsc).2 fs _ _ (by omega) b2.2 (hP _ hT)
          rw [s.target.c_eq] at qg
          have hw:wS Ef Bf m sc s q c=Ef m sc s.target (Ef m sc s.value (satA q (compF m tk tn)) c) c:=by rw [wS,if_pos k12,if_pos k2,het];simp [he]
          refine loopK' (c:=p47l0) rfl ?_
          repeat' first|(with_reducible first|refine cS ?_ ?_|refine oS ?_ ?_|refine dS ?_ ?_)<;>intro _|((with_reducible refine kk ?_ ?_);·rfl)|simp -implicitDefEqProofs(disch:=first|omega|assumption)only[push_cast,simprocAttr,Zd,Zc,Ze,Zb,h0,h2,h5,h13,h14,h15,hg,h1',hq,hg0,hg1,y,k1,k3,hx,he,hqc,qa,qe,qg,stabG,stabS,Z1,Yb,Z0,Zt,Zy,Z9,Ya,Zz,Zu,Zp]|(with_reducible first|refine cB ?_ ?_|refine oB ?_ ?_|refine dB ?_ ?_)<;>intro _|with_reducible first|refine Z2 ?_ ?_|refine Z3 (by decide) ?_|refine Z4 (by decide) ?_ ?_|exact Z5|refine Zx ?_|refine Zq ?_
          rw [← hw]
          refine ih (pre++[s]) (wS Ef Bf m sc s q c) sc fs _ _ _ (by simp [hl]) (by rw [← hgo hq,addF,if_neg k1]) (by omega) hsm.2 (by omega) (by intro k;simp only [List.all_cons,List.all_nil,hc,hT,Bool.and_true]) (by simp [look,Za,h0]) (by simp [look,Za,h2]) (by simp [look,Za,h5]) (by simp [look,Za,h13]) (by simp [look,Za,h14]) (by simp [look,Za,h15])
        ·
          have b1:q≤q∧q≤1000000:=⟨Int.le_refl _,hi2⟩
          have qe:=(hE s (by rw [hl];simp) sc hsc).1 fs q _ (by omega) b1.2 (hP _ hT)
          have b2:=hEm m sc s.value q c b1.2
          rw [s.value.c_eq] at qe
          have qg:=(hE s (by rw [hl];simp) sc hsc).2 fs _ _ (by omega) b2.2 (hP _ hT)
          rw [s.target.c_eq] at qg
          have hw:wS Ef Bf m sc s q c=Ef m sc s.target (Ef m sc s.value q c) c:=by rw [wS,if_pos k12,if_pos k2,het];simp [he]
          refine loopK' (c:=p47l0) rfl ?_
          repeat' first|(with_reducible first|refine cS ?_ ?_|refine oS ?_ ?_|refine dS ?_ ?_)<;>intro _|((with_reducible refine kk ?_ ?_);·rfl)|simp -implicitDefEqProofs(disch:=first|omega|assumption)only[push_cast,simprocAttr,Zd,Zc,Ze,Zb,h0,h2,h5,h13,h14,h15,hg,h1',hq,hg0,hg1,y,k1,k3,hx,he,hqc,qe,qg,stabG,stabS,Z1,Yb,Z0,Zt,Zy,Z9,Ya,Zz,Zu,Zp]|(with_reducible first|refine cB ?_ ?_|refine oB ?_ ?_|refine dB ?_ ?_)<;>intro _|with_reducible first|refine Z2 ?_ ?_|refine Z3 (by decide) ?_|refine Z4 (by decide) ?_ ?_|exact Z5|refine Zx ?_|refine Zq ?_
          rw [← hw]
          refine ih (pre++[s]) (wS Ef Bf m sc s q c) sc fs _ _ _ (by simp [hl]) (by rw [← hgo hq,addF,if_neg k1]) (by omega) hsm.2 (by omega) (by intro k;simp only [List.all_cons,List.all_nil,hc,hT,Bool.and_true]) (by simp [look,Za,h0]) (by simp [look,Za,h2]) (by simp [look,Za,h5]) (by simp [look,Za,h13]) (by simp [look,Za,h14]) (by simp [look,Za,h15])
      · have k1:s.kind=1:=k12.resolve_right k2
        have y:(s.kind=1)=True:=eq_true k1
        by_cases he:er=0
        · subst he
          have he:(0:Int)=0:=rfl
          have b1:q≤(satA q (compF m tk tn))∧(satA q (compF m tk tn))≤1000000:=Yy hi2 hcb.1
          have qe:=(hE s (by rw [hl];simp) sc hsc).1 fs (satA q (compF m tk tn)) _ (by omega) b1.2 (hP _ hT)
          have b2:=hEm m sc s.value (satA q (compF m tk tn)) c b1.2
          rw [s.value.c_eq] at qe
          have qa:=X7 A q c (compF m tk tn) hi1 hi2 hcb.1 hcb.2 _ (hP _ hT)
          have hw:wS Ef Bf m sc s q c=Ef m sc s.value (satA q (compF m tk tn)) c:=by rw [wS,if_pos k12,if_neg k2,het];simp [he]
          have fld1:[PV.agg [.str s.name,.int .i64 s.ty.kind,.str s.ty.name]]=flds [⟨s.name,s.ty⟩]:=rfl
          have qk:=fun h=>clip_ok fs sc h
          have hcf:=clip_full (fs:=fs)
          simp only [Fl.full] at hcf
          have hz1:(sc.length+1)*40≤140737488355328:=by omega
          have hz2:sc.length≤140737488355327:=by omega
          refine loopK' (c:=p47l0) rfl ?_
          repeat' first|(with_reducible first|refine cS ?_ ?_|refine oS ?_ ?_|refine dS ?_ ?_)<;>intro _|((with_reducible refine kk ?_ ?_);·rfl)|simp -implicitDefEqProofs(disch:=first|omega|assumption)only[push_cast,simprocAttr,Zd,Zc,Ze,Zb,h0,h2,h5,h13,h14,h15,hg,h1',hq,hg0,hg1,y,k3,hx,he,hqc,qa,qe,k2,qk,hcf,hz1,hz2,fld1,Xz,Y5,stabG,stabS,Z1,Yb,Z0,Zt,Zy,Z9,Ya,Zz,Zu,Zp]|(with_reducible first|refine cB ?_ ?_|refine oB ?_ ?_|refine dB ?_ ?_)<;>intro _|with_reducible first|refine Z2 ?_ ?_|refine Z3 (by decide) ?_|refine Z4 (by decide) ?_ ?_|exact Z5|refine Zx ?_|refine Zq ?_
          rw [← hw]
          refine ih (pre++[s]) (wS Ef Bf m sc s q c) (sc++[⟨s.name,s.ty⟩]) .any _ _ _ (by simp [hl]) (by rw [← hgo hq,addF,if_pos k1]) (by omega) hsm.2 (by rw [List.length_append,List.length_singleton];have:=s.sz_eq;omega) (by intro k;simp only [List.all_cons,List.all_nil,hc,hT,Bool.and_true]) (by simp [look,Za,h0]) (by simp [look,Za,h2]) (by simp [look,Za,h5]) (by simp [look,Za,h13]) (by simp [look,Za,h14]) (by simp [look,Za,h15])
        ·
          have b1:q≤q∧q≤1000000:=⟨Int.le_refl _,hi2⟩
          have qe:=(hE s (by rw [hl];simp) sc hsc).1 fs q _ (by omega) b1.2 (hP _ hT)
          have b2:=hEm m sc s.value q c b1.2
          rw [s.value.c_eq] at qe
          have hw:wS Ef Bf m sc s q c=Ef m sc s.value q c:=by rw [wS,if_pos k12,if_neg k2,het];simp [he]
          have fld1:[PV.agg [.str s.name,.int .i64 s.ty.kind,.str s.ty.name]]=flds [⟨s.name,s.ty⟩]:=rfl
          have qk:=fun h=>clip_ok fs sc h
          have hcf:=clip_full (fs:=fs)
          simp only [Fl.full] at hcf
          have hz1:(sc.length+1)*40≤140737488355328:=by omega
          have hz2:sc.length≤140737488355327:=by omega
          refine loopK' (c:=p47l0) rfl ?_
          repeat' first|(with_reducible first|refine cS ?_ ?_|refine oS ?_ ?_|refine dS ?_ ?_)<;>intro _|((with_reducible refine kk ?_ ?_);·rfl)|simp -implicitDefEqProofs(disch:=first|omega|assumption)only[push_cast,simprocAttr,Zd,Zc,Ze,Zb,h0,h2,h5,h13,h14,h15,hg,h1',hq,hg0,hg1,y,k3,hx,he,hqc,qe,k2,qk,hcf,hz1,hz2,fld1,Xz,Y5,stabG,stabS,Z1,Yb,Z0,Zt,Zy,Z9,Ya,Zz,Zu,Zp]|(with_reducible first|refine cB ?_ ?_|refine oB ?_ ?_|refine dB ?_ ?_)<;>intro _|with_reducible first|refine Z2 ?_ ?_|refine Z3 (by decide) ?_|refine Z4 (by decide) ?_ ?_|exact Z5|refine Zx ?_|refine Zq ?_
          rw [← hw]
          refine ih (pre++[s]) (wS Ef Bf m sc s q c) (sc++[⟨s.name,s.ty⟩]) .any _ _ _ (by simp [hl]) (by rw [← hgo hq,addF,if_pos k1]) (by omega) hsm.2 (by rw [List.length_append,List.length_singleton];have:=s.sz_eq;omega) (by intro k;simp only [List.all_cons,List.all_nil,hc,hT,Bool.and_true]) (by simp [look,Za,h0]) (by simp [look,Za,h2]) (by simp [look,Za,h5]) (by simp [look,Za,h13]) (by simp [look,Za,h14]) (by simp [look,Za,h15])
    · have k1:¬ s.kind=1:=fun h=>k12 (.inl h)
      have k2:¬ s.kind=2:=fun h=>k12 (.inr h)
      have qa:=X7 A q c 1 hi1 hi2 (by omega) (by omega) _ (hP o1 ho1)
      have b1:=Yy hi2 (n:=1) (by omega)
      obtain ⟨f1,qb⟩:=(hB s (by rw [hl];simp) sc (by omega)).1 fs s.fb _ _ (by omega) b1.2 (hP o1 ho1)
      have b3:=hBm m sc s.body _ c b1.2
      obtain ⟨f2,qc⟩:=(hB s (by rw [hl];simp) sc (by omega)).2 fs s.fe _ _ (by omega) b3.2 (hP o1 ho1)
      have hw:wS Ef Bf m sc s q c=(Bf m sc s.els (Bf m sc s.body (satA q 1) c).1 c).1:=by rw [wS,if_neg k12,if_neg k3]
      refine loopK' (c:=p47l0) rfl ?_
      repeat' first|(with_reducible first|refine cS ?_ ?_|refine oS ?_ ?_|refine dS ?_ ?_)<;>intro _|((with_reducible refine kk ?_ ?_);·rfl)|simp -implicitDefEqProofs(disch:=first|omega|assumption)only[push_cast,simprocAttr,Zd,Zc,Ze,Zb,h0,h2,h5,h13,h14,h15,hg,h1',hq,hg0,k1,k2,k3,qa,qb,qc]|(with_reducible first|refine cB ?_ ?_|refine oB ?_ ?_|refine dB ?_ ?_)<;>intro _
      rw [← hw]
      refine ih (pre++[s]) (wS Ef Bf m sc s q c) sc fs _ _ _ (by simp [hl]) (by rw [← hgo hq,addF,if_neg k1]) (by omega) hsm.2 (by omega) (by intro k;simp only [List.all_cons,List.all_nil,hc,ho1,Bool.and_true]) (by simp [look,Za,h0]) (by simp [look,Za,h2]) (by simp [look,Za,h5]) (by simp [look,Za,h13]) (by simp [look,Za,h14]) (by simp [look,Za,h15])
end
section
theorem wblock_ok (m:Mod) (hm:m.Ok) (sc:List Fld) (l:List St) (A c:Int) (Ef:EF) (Bf:BF) (hEm:EMono Ef) (hBm:BMono Bf) (hb:sc.length+szS l≤1048576)
    (hE:∀ s∈l,∀ sc:List Fld,sc.length≤1048576→WEok Ef m sc A c s.value∧WEok Ef m sc A c s.target) (hB:∀ s∈l,∀ sc:List Fld,sc.length+s.sz≤1048576→WBok Bf m sc A c s.body∧WBok Bf m sc A c s.els) :
    WBok (fun m sc l q c=>wB' Ef Bf m c sc l q) m sc A c l:=by
  intro fs f q H h0 h1 hH
  have hl:=m.hm
  have hw:=fun s=>wO_low (k:=H.length+1) (A:=A) (s:=s) (c:=c)
  have hll:=szS_len l
  have hsz:∀ s∈l,s.sz≤1048576:=fun s hs=>Nat.le_trans (Xc hs) (by omega)
  have key:∀ P:PV→Heap→Prop,(∀ fl',P (.vs fl' (flds (wB' Ef Bf m c sc l q).2)) (wH A (wB' Ef Bf m c sc l q).1 c H))→∃ rr h',doCall E (callR E) 47 [.ptr (0,0) 1 0 0,.agg m.c,.vs fs (flds sc),.vs f (sts l)] (wH A q c H)=some (rr,h')∧P rr h':=by
    intro P hP
    refine call_impX1 (pf:=p47) rfl rfl rfl rfl rfl ?_
    show kQ E _ (endX [⟨8,none⟩] _ _) .norm { lvl:=H.length+1,tmps:=mk 106 [(0,.ptr (0,0) 1 0 0),(1,.agg m.c),(2,.vs fs (flds sc)),(3,.vs f (sts l))],heap:=wH A q c (H++[[none,none]]),defers:=[] }
    repeat' first|(with_reducible first|refine cS ?_ ?_|refine oS ?_ ?_|refine dS ?_ ?_)<;>intro _|((with_reducible refine kk ?_ ?_);·rfl)|simp -implicitDefEqProofs(disch:=first|omega|assumption)only[push_cast,simprocAttr,Zd,Zc,Ze,Zb,Y8]|(with_reducible first|refine cB ?_ ?_|refine oB ?_ ?_|refine dB ?_ ?_)<;>intro _
    with_reducible refine wbl_loop m hm l (by omega) (f:=f) A c Ef Bf hEm hBm hsz hE hB H hH (wB' Ef Bf m c sc l q) ?_ l [] q sc fs none none _ rfl rfl h0 h1 hb (fun _=>rfl) (by simp [look,Za]) (by simp [look,Za]) (by simp [look,Za]) (by simp [look,Za]) (by simp [look,Za]) (by simp [look,Za])
    intro t q' sc' fs' o0 o1 hf k2
    have hP':=hP fs'
    rw [hf] at hP'
    repeat' first|(with_reducible first|refine cS ?_ ?_|refine oS ?_ ?_|refine dS ?_ ?_)<;>intro _|((with_reducible refine kk ?_ ?_);·rfl)|simp -implicitDefEqProofs(disch:=first|omega|assumption)only[push_cast,simprocAttr,Zd,Zc,Ze,Zb,k2]|(with_reducible first|refine cB ?_ ?_|refine oB ?_ ?_|refine dB ?_ ?_)<;>intro _
    refine endX_ret (rr:=.vs fs' (flds sc')) (res_one rfl) ?_ rfl ?_
    · show heapLow (H.length+1) ((wH A q' c (H++[[o0,o1]])).take (H.length+1))=true
      simp only [List.take_succ_cons,tk_t,hl_c,List.all_cons,List.all_nil,hw,hH,Bool.and_true]
    · show P _ ((wH A q' c (H++[[o0,o1]])).take (H.length+1))
      simp only [List.take_succ_cons,tk_t]
      exact hP'
  obtain ⟨rr,h',hd,fl',rfl,rfl⟩:=key (fun rr h'=>∃ fl',rr=.vs fl' (flds (wB' Ef Bf m c sc l q).2)∧h'=wH A (wB' Ef Bf m c sc l q).1 c H) fun fl'=>⟨fl',rfl,rfl⟩
  exact ⟨fl',hd⟩
end
section
theorem we_stop (m:Mod) (sc:List Fld) (A c k o x q:Int) (nm:Str) (fs fl:Fl) (as:List Ex) (H:Heap) (h1:q≥1000000) (hH:heapLow (H.length+1) H=true) :
    doCall E (callR E) 98 [.ptr (0,0) 1 0 0,.agg m.c,.vs fs (flds sc),.agg [.int .i64 k,.int .i64 o,.str nm,.int .i64 x,.vs fl (exs as)]] (wH A q c H)=some (.tuple [],wH A q c H):=by
  have hl:=m.hm
  have hw:=fun s=>wO_low (k:=H.length+1) (A:=A) (s:=s) (c:=c)
  refine Z7 (pf:=p98) rfl rfl rfl rfl rfl (by simp [PV.lowL,PV.low]) ?_
  show kQ E _ (endM [] _ _ _) .norm { lvl:=H.length+1,tmps:=mk 168 [(0,.ptr (0,0) 1 0 0),(1,.agg m.c),(2,.vs fs (flds sc)),(3,.agg [.int .i64 k,.int .i64 o,.str nm,.int .i64 x,.vs fl (exs as)])],heap:=[wO A q c]::(H++[[none,none,none,none,none]]),defers:=[] }
  repeat' first|(with_reducible first|refine cS ?_ ?_|refine oS ?_ ?_|refine dS ?_ ?_)<;>intro _|((with_reducible refine kk ?_ ?_);·rfl)|simp -implicitDefEqProofs(disch:=first|omega|assumption)only[push_cast,simprocAttr,Zd,Zc,Ze,Zb,hl,h1,hw,hH,Zm,Zn,allMarks,List.all_cons,List.all_nil]|(with_reducible first|refine cB ?_ ?_|refine oB ?_ ?_|refine dB ?_ ?_)<;>intro _
theorem takes_b {m:Mod} {nm:Str} (h:takesF m 7 nm=true):wordF nm=0∧stF m nm<0∧bltF nm=true:=by
  simp only [takesF,Bool.and_eq_true,decide_eq_true_eq] at h
  obtain ⟨hm,_,hs⟩:=h
  simp only [resNames,List.mem_cons,List.not_mem_nil,or_false] at hm
  rcases hm with rfl|rfl|rfl|rfl|rfl<;>exact ⟨by decide,hs,by decide⟩
theorem takes_7 {m:Mod} {k:Int} {nm:Str} (h:¬ k=7):takesF m k nm=false:=by simp [takesF,h]
theorem wexpr_ok (m:Mod) (hm:m.Ok) (sc:List Fld) (hsc:sc.length≤1048576) (A c:Int) (hc0:0≤c) (hc1:c≤4194304) (Ef:EF) (Bf:BF) (hEm:EMono Ef) (hBm:BMono Bf) (e:Ex) (he:e.size≤1048576)
    (hE:∀ a∈e.args,WEok Ef m sc A c a) (hF:∀ (i:Nat) f,m.fs[i]?=some f→WBok Bf (m.win i) f.ps A (c+1) f.bodyS∧∀ q,WEok Ef (m.win i) (Bf (m.win i) f.ps f.bodyS q (c+1)).2 A (c+1) f.retE) :
    WEok (wE' A Ef Bf) m sc A c e:=by
  intro fs q H h0 h1 hH
  obtain ⟨k,o,nm,x,fl,as⟩:=e
  have hsz:=Ex.size_eq (.mk k o nm x fl as)
  have has:as.length≤1048576:=by have:=sizeL_len as;simp only [Ex.args] at hsz;omega
  have hx:=fun h=>exprtype_ok _ (.mk k o nm x fl as) (Nat.le_refl _) he m hm fs sc hsc h
  obtain ⟨tk,tn,er,het⟩:∃ tk tn er,exprF m sc (.mk k o nm x fl as)=(⟨tk,tn⟩,er):=⟨_,_,_,rfl⟩
  rw [het] at hx
  have ec:(Ex.mk k o nm x fl as).c=[.int .i64 k,.int .i64 o,.str nm,.int .i64 x,.vs fl (exs as)]:=by simp [Ex.c]
  rw [ec] at hx ⊢
  have hE:∀ a∈as,WEok Ef m sc A c a:=hE
  show doCall E (callR E) 98 _ (wH A q c H)=some (.tuple [],wH A (wE' A Ef Bf m sc (.mk k o nm x fl as) q c) c H)
  have hv:wE' A Ef Bf m sc (.mk k o nm x fl as) q c=if q≥1000000 then q else if 0≤atF m k nm er∧c>A then satA q 1 else wF Ef Bf m (atF m k nm er) (wL Ef m sc c (argL m k nm er as) (satA q (ownW m sc k (⟨tk,tn⟩,er)))) c:=by
    rw [wE',het]
  rw [hv]
  by_cases hq:q≥1000000
  · rw [if_pos hq]
    exact we_stop m sc A c k o x q nm fs fl as H hq hH
  rw [if_neg hq]
  have hno:∀ s,wF Ef Bf m (-1) s c=s:=fun s=>by rw [wF,if_pos (by decide)]
  by_cases he0:er=0
  · by_cases k7:k=7
    · subst k7
      have hown:ownW m sc 7 (⟨tk,tn⟩,er)=mxI 1 (compF m tk tn):=by simp [ownW,he0]
      by_cases ht:takesF m 7 nm=true
      · obtain ⟨w0,s0,b0⟩:=takes_b ht
        have hat:atF m 7 nm er = -1:=by simp [atF,b0]
        have hpos:1≤as.length:=by
          have:=takes_ne (by rw [het];exact he0) ht
          exact List.length_pos_iff.2 this
        rw [hat,if_neg (by simp),hno,hown,show argL m 7 nm er as=as.drop 1 by simp [argL,he0,ht]]
        exact we_bt m hm sc A c Ef hEm o x tk er nm tn fs fl as q H h0 hq hH has hE hx he0 ht hpos w0 s0 b0
      · have ht:takesF m 7 nm=false:=by simpa using ht
        have hag:argL m 7 nm er as=as:=by simp [argL,ht]
        by_cases w0:wordF nm=0
        · by_cases s0:stF m nm<0
          · cases b0:bltF nm
            · have hat:atF m 7 nm er=fnF m nm:=by simp [atF,he0,w0,s0,b0]
              by_cases hf:fnF m nm<0
              · have h2:=(Xr (fun s:Fun'=>decide (s.name=nm)) m.fs).2.2 hf
                rw [hat,if_neg (by omega),show fnF m nm = -1 from h2,hno,hown,hag]
                exact we_nf m hm sc A c Ef hEm o x tk er nm tn fs fl as q H h0 hq hH has hE hx he0 ht w0 s0 b0 hf (by omega)
              · obtain ⟨i,hi⟩:=Int.eq_ofNat_of_zero_le (show 0≤fnF m nm by omega)
                have hlt:i<m.fs.length:=by
                  have:=(Xr (fun s:Fun'=>decide (s.name=nm)) m.fs).2.1
                  have hi':idxF (fun s:Fun'=>decide (s.name=nm)) m.fs=(i:Int):=hi
                  omega
                by_cases hca:c>A
                · rw [hat,if_pos ⟨by omega,hca⟩]
                  exact we_c m hm sc A c Ef hEm o x tk er nm tn fs fl as q H h0 hq hH has hE hx he0 ht w0 s0 b0 i hi hca
                · rw [hat,if_neg (fun h=>hca h.2),hown,hag,hi]
                  obtain ⟨h47,h98⟩:=hF i m.fs[i] (List.getElem?_eq_getElem hlt)
                  exact we_f m hm sc A c Ef Bf hEm o x tk er nm tn fs fl as q H h0 hq hH has hE hx he0 ht w0 s0 b0 i hi hca m.fs[i] (List.getElem?_eq_getElem hlt) (hm.pf _ (List.getElem_mem hlt)) hc0 hc1 hBm h47 h98
            · have hat:atF m 7 nm er = -1:=by simp [atF,b0]
              rw [hat,if_neg (by simp),hno,hown,hag]
              exact we_bf m hm sc A c Ef hEm o x tk er nm tn fs fl as q H h0 hq hH has hE hx he0 ht w0 s0 b0
          · have hat:atF m 7 nm er = -1:=by simp [atF,s0]
            rw [hat,if_neg (by simp),hno,hown,hag]
            exact we_sf m hm sc A c Ef hEm o x tk er nm tn fs fl as q H h0 hq hH has hE hx he0 ht w0 s0
        · have hat:atF m 7 nm er = -1:=by simp [atF,w0]
          rw [hat,if_neg (by simp),hno,hown,hag]
          exact we_wf m hm sc A c Ef hEm o x tk er nm tn fs fl as q H h0 hq hH has hE hx he0 ht w0
    · have ht:=takes_7 (m:=m) (nm:=nm) k7
      have hat:atF m k nm er = -1:=by simp [atF,k7]
      rw [hat,if_neg (by simp),hno,show argL m k nm er as=as by simp [argL,ht]]
      by_cases k9:k=9
      · subst k9
        rw [show ownW m sc 9 (⟨tk,tn⟩,er)=4 by simp [ownW,he0]]
        exact we_k9 m hm sc A c Ef hEm o x tk er nm tn fs fl as q H h0 hq hH has hE hx he0 ht
      · rw [show ownW m sc k (⟨tk,tn⟩,er)=mxI 1 (compF m tk tn) by simp [ownW,he0,k9]]
        exact we_k m hm sc A c Ef hEm k o x tk er nm tn fs fl as q H h0 hq hH has hE hx he0 ht k7 k9
  · have hat:atF m k nm er = -1:=by simp [atF,he0]
    rw [hat,if_neg (by simp),hno,show argL m k nm er as=as by simp [argL,he0],show ownW m sc k (⟨tk,tn⟩,er)=1 by simp [ownW,he0]]
    exact we_err m hm sc A c Ef hEm k o x tk er nm tn fs fl as q H h0 hq hH has hE hx he0
def FsOk (m:Mod):Prop:=∀ f∈m.fs,f.ps.length+(szS f.bodyS+f.retE.size)≤1048576
theorem win_fs {m:Mod} (h:FsOk m) (i:Nat):FsOk (m.win i):=fun f hf=>h f (List.mem_of_mem_take hf)
theorem wB_len {Ef:EF} {Bf:BF} {m:Mod} {c:Int}:∀ (l:List St) (sc:List Fld) (s:Int),(wB' Ef Bf m c sc l s).2.length≤sc.length+szS l
  | [],sc,s=>by simp [wB',szS]
  | st::r,sc,s=>by
    have h1:=wB_len (Ef:=Ef) (Bf:=Bf) (m:=m) (c:=c) r (addF sc st) (wS Ef Bf m sc st s c)
    have h2:(addF sc st).length≤sc.length+1:=by unfold addF;split<;>simp
    have h3:=st.sz_eq
    simp only [wB',szS]
    split
    · simp
    · omega
theorem W_len (A:Int) (n:Nat) (m:Mod) (sc:List Fld) (l:List St) (s c:Int):((W A n).2 m sc l s c).2.length≤sc.length+szS l:=by
  cases n with
  | zero=>exact Nat.le_add_right _ _
  | succ n=>exact wB_len l sc s
theorem fuel_in {K i L n a e:Nat} (h:i<L) (hn:L*K+e≤n+1) (ha:a<K):i*K+a≤n:=by
  have hmul:(i+1)*K≤L*K:=Nat.mul_le_mul_right _ h
  rw [Nat.add_mul,Nat.one_mul] at hmul
  omega
theorem W_ok (A:Int) (K:Nat) (hK:K=1048577):∀ (n:Nat) (m:Mod),m.Ok→FsOk m→∀ (c:Int),0≤c→c+m.fs.length≤4194304 →
    (∀ sc e,sc.length≤1048576→e.size≤1048576→m.fs.length*K+e.size≤n→WEok (W A n).1 m sc A c e) ∧
    (∀ sc l,sc.length+szS l≤1048576→m.fs.length*K+szS l≤n→WBok (W A n).2 m sc A c l):=by
  intro n
  induction n with
  | zero =>
    intro m hm hfs c h0 h1
    refine ⟨fun sc e hs he hn=>?_,fun sc l hs hn=>?_⟩
    · have:=e.size_eq
      omega
    · have hl:=szS_len l
      obtain rfl:l=[]:=List.eq_nil_of_length_eq_zero (by omega)
      obtain ⟨hEm,hBm⟩:=W_mono A 0
      have:=wblock_ok m hm sc [] A c _ _ hEm hBm hs (fun s h=>by cases h) (fun s h=>by cases h)
      exact this
  | succ n ih =>
    intro m hm hfs c h0 h1
    obtain ⟨hEm,hBm⟩:=W_mono A n
    obtain ⟨i1,i2⟩:=ih m hm hfs c h0 h1
    refine ⟨fun sc e hs he hn=>?_,fun sc l hs hn=>?_⟩
    · refine wexpr_ok m hm sc hs A c h0 (by omega) _ _ hEm hBm e he (fun a ha=>?_) (fun i f hf=>?_)
      · have h2:=e.size_eq
        have h3:=Ex.size_mem ha
        exact i1 sc a hs (by omega) (by omega)
      · have hlt:i<m.fs.length:=by
          rcases Nat.lt_or_ge i m.fs.length with h|h
          · exact h
          · rw [List.getElem?_eq_none h] at hf;cases hf
        have hwl:(m.win i).fs.length=i:=by
          show (m.fs.take i).length=i
          simp;omega
        have hff:=hfs f (List.mem_of_getElem? hf)
        obtain ⟨j1,j2⟩:=ih (m.win i) (win_Ok hm i) (win_fs hfs i) (c+1) (by omega) (by rw [hwl];omega)
        rw [hwl] at j1 j2
        refine ⟨j2 f.ps f.bodyS (by omega) (fuel_in hlt hn (by omega)),fun q=>j1 _ f.retE ?_ (by omega) (fuel_in hlt hn (by omega))⟩
        have:=W_len A n (m.win i) f.ps f.bodyS q (c+1)
        omega
    · refine wblock_ok m hm sc l A c _ _ hEm hBm hs (fun s h sc' hs'=>?_) (fun s h sc' hs'=>?_)
      · have h2:=Xc h
        have h3:=s.sz_eq
        exact ⟨i1 sc' s.value hs' (by omega) (by omega),i1 sc' s.target hs' (by omega) (by omega)⟩
      · have h2:=Xc h
        have h3:=s.sz_eq
        exact ⟨i2 sc' s.body (by omega) (by omega),i2 sc' s.els (by omega) (by omega)⟩
theorem W_run (n A:Nat) (m:Mod) (hm:m.Ok) (hfs:FsOk m) (hA:A=m.fs.length) (hf:m.fs.length≤4194304) (hmn:szS m.mainS≤1048576) (hn:m.fs.length*1048577+szS m.mainS≤n) :
    ∃ fl',doCall E (callR E) 47 [.ptr (0,0) 1 0 0,.agg m.c,.vs .nil [],.vs m.mf m.main] [[wO m.fs.length 0 0]]=some (.vs fl' (flds ((W A n).2 m [] m.mainS 0 0).2),[[wO m.fs.length ((W A n).2 m [] m.mainS 0 0).1 0]]):=by
  subst hA
  obtain ⟨fl',hq⟩:=(W_ok m.fs.length 1048577 rfl n m hm hfs 0 (by omega) (by omega)).2 [] m.mainS (by simpa using hmn) hn .nil m.mf 0 [] (by omega) (by omega) rfl
  exact ⟨fl',hq⟩
theorem fuel_ex (k:Nat):∃ n,k*1048577+1048576≤n:=⟨_,Nat.le_refl _⟩
noncomputable def fuelN (k:Nat):Nat:=Classical.choose (fuel_ex k)
noncomputable def fuelW (m:Mod):Nat:=fuelN m.fs.length
theorem fuelW_le (m:Mod) (h:szS m.mainS≤1048576):m.fs.length*1048577+szS m.mainS≤fuelW m:=Nat.le_trans (Nat.add_le_add_left h _) (Classical.choose_spec (fuel_ex m.fs.length))
noncomputable def weiF (m:Mod):Int:=((W m.fs.length (fuelW m)).2 m [] m.mainS 0 0).1
theorem weight_ok (m:Mod) (hm:m.Ok) (hfs:FsOk m) (hmn:szS m.mainS≤1048576) (h:Heap):doCall E (callR E) 13 [.agg m.c] h=some (.int .i64 (weiF m),h):=by
  have h1:=m.hm
  have hf:=hm.fs
  obtain ⟨fl',hq'⟩:=W_run (fuelW m) m.fs.length m hm hfs rfl (by omega) hmn (fuelW_le m hmn)
  obtain ⟨w,hw⟩:∃ w,w=((W m.fs.length (fuelW m)).2 m [] m.mainS 0 0).1:=⟨_,rfl⟩
  obtain ⟨z,hz⟩:∃ z,z=((W m.fs.length (fuelW m)).2 m [] m.mainS 0 0).2:=⟨_,rfl⟩
  have hw':weiF m=w:=by rw [weiF,hw]
  rw [← hw,← hz] at hq'
  rw [hw']
  refine Zg (pf:=p13) rfl rfl rfl rfl (by simp [PV.lowL,PV.low,Zj,Zi,Zk,Zl,h1]) (by simp [PV.low,PV.lowL,Zj,Zi,Zk,Zl,h1]) ?_ h
  show kQ E _ (endQ [⟨2,none⟩] _) .norm { lvl:=0,tmps:=mk 18 [(0,.agg m.c)],heap:=[[none]],defers:=[] }
  repeat' first|(with_reducible first|refine cS ?_ ?_|refine oS ?_ ?_|refine dS ?_ ?_)<;>intro _|((with_reducible refine kk ?_ ?_);·rfl)|simp -implicitDefEqProofs(disch:=first|omega|assumption)only[push_cast,simprocAttr,Zd,Zc,Ze,Zb,h1,hq']|(with_reducible first|refine cB ?_ ?_|refine oB ?_ ?_|refine dB ?_ ?_)<;>intro _
end
section
theorem heavy_ok (m:Mod) (hm:m.Ok) (hfs:FsOk m) (hmn:szS m.mainS≤1048576) (h:Heap):doCall E (callR E) 66 [.ip m.c] h=some (.int .i64 (whenF (decide (weiF m>512)) 5),h):=by
  have h1:=m.hm
  have hq:=fun h=>weight_ok m hm hfs hmn h
  obtain ⟨w,hw⟩:∃ w,w=weiF m:=⟨_,rfl⟩
  rw [← hw] at hq ⊢
  refine Zg (pf:=p66) rfl rfl rfl rfl (by simp [PV.lowL,PV.low,Zj,Zi,Zk,Zl,h1]) (by simp [PV.low,PV.lowL,Zj,Zi,Zk,Zl,h1]) ?_ h
  show kQ E _ (endQ [⟨1,none⟩] _) .norm { lvl:=0,tmps:=mk 6 [(0,.ip m.c)],heap:=[[]],defers:=[] }
  by_cases b:w>512
  · repeat' first|(with_reducible first|refine cS ?_ ?_|refine oS ?_ ?_|refine dS ?_ ?_)<;>intro _|((with_reducible refine kk ?_ ?_);·rfl)|simp -implicitDefEqProofs(disch:=first|omega|assumption)only[push_cast,simprocAttr,Zd,Zc,Ze,Zb,h1,hq,Yn,b]|(with_reducible first|refine cB ?_ ?_|refine oB ?_ ?_|refine dB ?_ ?_)<;>intro _
    all_goals simp [b]
  · repeat' first|(with_reducible first|refine cS ?_ ?_|refine oS ?_ ?_|refine dS ?_ ?_)<;>intro _|((with_reducible refine kk ?_ ?_);·rfl)|simp -implicitDefEqProofs(disch:=first|omega|assumption)only[push_cast,simprocAttr,Zd,Zc,Ze,Zb,h1,hq,Yn,b]|(with_reducible first|refine cB ?_ ?_|refine oB ?_ ?_|refine dB ?_ ?_)<;>intro _
    all_goals simp [b]
def chClos (m:Mod):List Clo:=[⟨60,[.ptr (0,1) 1 0 0],[]⟩,⟨61,[.ptr (0,1) 1 0 0],[]⟩,⟨62,[.ptr (0,1) 1 0 0],[]⟩,⟨63,[.ptr (0,1) 1 0 0],[]⟩,⟨64,[.ptr (0,1) 1 0 0],[]⟩,⟨65,[.ptr (0,1) 1 0 0],[]⟩,⟨66,[],[.ip m.c]⟩]
noncomputable def stepsF (m:Mod):Int × (List Str × Nat) :=
  chainF [fun s=>(limF m,s),fun s=>structsF m s.1 s.2,globF m,fun s=>(whenF (totB m) 5,s),fun s=>funsG m 0 m.fs s.1 s.2,fun s=>(mainF m,s),fun s=>(whenF (decide (weiF m>512)) 5,s)] ([],0)
noncomputable def checkF (m:Mod):Int:=(stepsF m).1
theorem ch_low (m:Mod) (k:Nat):obLow (k+1) (some (.mem (clos (chClos m)) 1 false 1))=true:=by
  have h1:=PV.lowL_k (k:=k+1) _ m.hm
  simp [obLow,PV.lowL,PV.low,clos,chClos,Nat.blt_eq,Mod.c,h1,Zj,Zi,Zk,Zl]
theorem check_first (m:Mod) (hm:m.Ok) (hz:m.OkZ) (hfs:FsOk m) (o2:List (Option Ob)) (ho2:o2=[some (.mem (clos (chClos m)) 1 false 1)]) :
    doCall E (callR E) 59 [.sl (0,2) 1 0 7] [usO [] 0::ckO m::o2]=some (.int .i64 (checkF m),[usO (stepsF m).2.1 (stepsF m).2.2::ckO m::o2]):=by
  have hlo:LowH [[]] o2:=⟨rfl,by rw [ho2];simp only [List.all_cons,List.all_nil,Bool.and_true];exact ch_low m 1⟩
  have hall:∀ s:List Str × Nat,hget [usO s.1 s.2::ckO m::o2] (0,2)=some (.mem (clos (chClos m)) 1 false 1):=by
    intro s
    rw [ho2];rfl
  have hmn:szS m.mainS≤1048576:=by have:=hz.tot;omega
  have hfz:∀ s∈m.fs,s.ps.length+(szS s.bodyS+s.retE.size)≤1048576:=hfs
  have hF:=first_chain (nm:=(0,2)) (g:=1) (k:=1) (all:=clos (chClos m)) (fun s:List Str × Nat=>[usO s.1 s.2::ckO m::o2]) (fun _=>rfl) hall
    [(⟨60,[.ptr (0,1) 1 0 0],[]⟩,fun s=>(limF m,s)),(⟨61,[.ptr (0,1) 1 0 0],[]⟩,fun s=>structsF m s.1 s.2),(⟨62,[.ptr (0,1) 1 0 0],[]⟩,globF m),(⟨63,[.ptr (0,1) 1 0 0],[]⟩,fun s=>(whenF (totB m) 5,s)),(⟨64,[.ptr (0,1) 1 0 0],[]⟩,fun s=>funsG m 0 m.fs s.1 s.2),(⟨65,[.ptr (0,1) 1 0 0],[]⟩,fun s=>(mainF m,s)),(⟨66,[],[.ip m.c]⟩,fun s=>(whenF (decide (weiF m>512)) 5,s))]
    (by
      intro p hp s
      simp only [List.mem_cons,List.not_mem_nil,or_false] at hp
      rcases hp with e|e|e|e|e|e|e
      · rw [e];exact limits_ok m hm hz s.1 s.2 o2 [[]] hlo
      · rw [e];exact structs_ok m hm s.1 s.2 o2 [[]] hlo
      · rw [e];exact globals_ok m hm s.1 s.2 o2 [[]] hlo
      · rw [e];exact totals_ok m hm s.1 s.2 o2 [[]] hlo
      · rw [e];exact functions_ok m hm hfz s.1 s.2 o2 [[]] hlo
      · rw [e];exact cmain_ok m hm hz s.1 s.2 o2 [[]] hlo
      · rw [e];exact heavy_ok m hm hfs hmn _) ([],0)
  exact first_ok (0,2) 1 (chClos m) (by simp [chClos]) _ [usO [] 0::ckO m::o2] _ (by simp) (hall ([],0)) hF (by
    show ((usO _ _::ckO m::o2).all (obLow 1)&&true)=true
    rw [List.all_cons,List.all_cons,Xl,X6 m 0,ho2,List.all_cons,ch_low m 0]
    rfl)
set_option maxHeartbeats 4000000 in
theorem check_ok (m:Mod) (hm:m.Ok) (hz:m.OkZ) (hfs:FsOk m) (h:Heap):doCall E (callR E) 18 [.agg m.c] h=some (.int .i64 (checkF m),h):=by
  have h1:=m.hm
  have hq:=check_first m hm hz hfs _ rfl
  obtain ⟨u,hu⟩:∃ u,u=usO (stepsF m).2.1 (stepsF m).2.2:=⟨_,rfl⟩
  rw [← hu] at hq
  simp only [clos,chClos,Clo.v,List.map_cons,List.map_nil] at hq
  rw [show usO [] 0=some (.map [] 0 1) from rfl] at hq
  unfold ckO at hq
  refine Zg (pf:=p18) rfl rfl rfl rfl (by simp [PV.lowL,PV.low,Zj,Zi,Zk,Zl,h1]) (by simp [PV.low,PV.lowL,Zj,Zi,Zk,Zl,h1]) ?_ h
  show kQ E _ (endQ [⟨2,none⟩] _) .norm { lvl:=0,tmps:=mk 23 [(0,.agg m.c)],heap:=[[none,none,none]],defers:=[] }
  repeat' first|(with_reducible first|refine cS ?_ ?_|refine oS ?_ ?_|refine dS ?_ ?_)<;>intro _|((with_reducible refine kk ?_ ?_);·rfl)|simp -implicitDefEqProofs(disch:=first|omega|assumption)only[push_cast,simprocAttr,Zd,Zc,Ze,Zb,h1,hq,Yp,Yl,Yk,Yj,Yg,Ys,Yf,stabG,stabS,Z1,Yb,Z0,Zt,Zy,Z9,Ya,Zz,Zu,Zp]|(with_reducible first|refine cB ?_ ?_|refine oB ?_ ?_|refine dB ?_ ?_)<;>intro _|with_reducible first|refine Z2 ?_ ?_|refine Z3 (by decide) ?_|refine Z4 (by decide) ?_ ?_|exact Z5|refine Zx ?_|refine Zq ?_
end
section
def Mod.wm (m:Mod) (f:Fl) (l:List St):Mod:={ m with mf:=f,mainS:=l }
section
variable {m:Mod} {f:Fl} {l:List St}
theorem wm_win {i:Nat}:(m.wm f l).win i=(m.win i).wm f l:=rfl
theorem wm_cg {acc:List Int} {k:Int} {nm:Str}:compG (m.wm f l) acc k nm=compG m acc k nm:=rfl
theorem wm_sum {acc:List Int}:∀ (fs:List Fld) (n:Int),sumG (m.wm f l) acc fs n=sumG m acc fs n
  | [],n=>rfl
  | a::r,n=>by simp only [sumG,wm_cg];exact wm_sum r _
theorem wm_siz:∀ (ss:List Sct) (acc:List Int),sizG (m.wm f l) ss acc=sizG m ss acc
  | [],acc=>rfl
  | a::r,acc=>by simp only [sizG,wm_sum];exact wm_siz r _
theorem wm_comp {k:Int} {nm:Str}:compF (m.wm f l) k nm=compF m k nm:=by
  unfold compF sizF;rw [wm_siz];rfl
theorem wm_tot {fs:List Fld}:totF (m.wm f l) fs=totF m fs:=by
  unfold totF sizF;rw [wm_siz,wm_sum];rfl
theorem wm_con:∀ (ts:List Ty) (n:Int),conN (m.wm f l) ts n=conN m ts n
  | [],n=>rfl
  | a::r,n=>by simp only [conN,wm_comp,wm_con r]
theorem wm_cf {k:Int} {ts:List Ty}:constructF (m.wm f l) k ts=constructF m k ts:=by
  unfold constructF;simp only [wm_con]
theorem wm_call {sc:List Fld} {nm:Str} {as:List Ex} {ts:List Ty}:callF (m.wm f l) sc nm as ts=callF m sc nm as ts:=by
  unfold callF;rw [wm_cf];rfl
theorem wm_node {sc:List Fld} {k o x:Int} {nm:Str} {as:List Ex} {ts:List Ty}:nodeF (m.wm f l) sc k o nm x as ts=nodeF m sc k o nm x as ts:=by
  unfold nodeF;rw [wm_call];rfl
mutual
theorem wm_ex {sc:List Fld}:∀ e:Ex,exprF (m.wm f l) sc e=exprF m sc e
  | .mk k o nm x fl as=>by
    rw [exprF,exprF,wm_args as]
    simp only [wm_node]
    rfl
theorem wm_args {sc:List Fld}:∀ (as:List Ex) (skip:Bool),argsF (m.wm f l) sc skip as=argsF m sc skip as
  | [],_=>by rw [argsF,argsF]
  | a::r,_=>by rw [argsF,argsF,wm_ex a,wm_args r]
end
theorem wm_chk {sc:List Fld} {e:Ex} {t:Ty}:chkE (m.wm f l) sc e t=chkE m sc e t:=by unfold chkE;rw [wm_ex]
theorem wm_asg {sc:List Fld} {ps:Int} {s:St}:asgF (m.wm f l) ps sc s=asgF m ps sc s:=by unfold asgF;simp only [wm_ex,wm_chk];rfl
mutual
theorem wm_blk {gs:List Str} {ps:Int} {mn:Bool}:∀ (b:List St) (lo:Int) (sc:List Fld),blkF (m.wm f l) gs ps mn lo sc b=blkF m gs ps mn lo sc b
  | [],_,_=>by rw [blkF,blkF]
  | s::r,_,_=>by rw [blkF,blkF,wm_stm s,wm_blk r]
theorem wm_stm {gs:List Str} {ps:Int} {mn:Bool}:∀ (s:St) (lo:Int) (sc:List Fld),stmtF (m.wm f l) gs ps mn lo sc s=stmtF m gs ps mn lo sc s
  | .mk k nm t tg v ct fb b fe e,_,_=>by
    rw [stmtF,stmtF,wm_blk b,wm_blk e]
    simp only [wm_chk,wm_asg,wm_blk b]
    rfl
end
theorem wm_fun {i:Nat} {fn:Fun'} {us:List Str}:funF (m.wm f l) i fn us=funF m i fn us:=by
  unfold funF retE';simp only [wm_win,wm_blk,wm_ex];rfl
theorem wm_funs:∀ (fs:List Fun') (i:Nat) (us:List Str) (c:Nat),funsG (m.wm f l) i fs us c=funsG m i fs us c
  | [],_,_,_=>rfl
  | a::r,i,us,c=>by simp only [funsG,wm_fun,wm_funs r]
end
end
section
theorem check_iff (m:Mod):checkF m=0↔limF m=0∧(structsF m [] 0).1=0∧(globF m (structsF m [] 0).2).1=0∧whenF (totB m) 5=0∧(funsG m 0 m.fs (globF m (structsF m [] 0).2).2.1 (globF m (structsF m [] 0).2).2.2).1=0∧mainF m=0∧whenF (decide (weiF m>512)) 5=0:=by
  unfold checkF stepsF
  simp only [chainF]
  by_cases h1:limF m=0
  · by_cases h2:(structsF m [] 0).1=0
    · by_cases h3:(globF m (structsF m [] 0).2).1=0
      · by_cases h4:whenF (totB m) 5=0
        · by_cases h5:(funsG m 0 m.fs (globF m (structsF m [] 0).2).2.1 (globF m (structsF m [] 0).2).2.2).1=0
          · by_cases h6:mainF m=0
            · by_cases h7:whenF (decide (weiF m>512)) 5=0
              · simp only [h1,h2,h3,h4,h5,h6,h7,if_true,and_self]
              · simp only [h1,h2,h3,h4,h5,h6,h7,if_true,if_false,and_false]
            · simp only [h1,h2,h3,h4,h5,h6,if_true,if_false,and_false,false_and]
          · simp only [h1,h2,h3,h4,h5,if_true,if_false,and_false,false_and]
        · simp only [h1,h2,h3,h4,if_true,if_false,and_false,false_and]
      · simp only [h1,h2,h3,if_true,if_false,and_false,false_and]
    · simp only [h1,h2,if_true,if_false,and_false,false_and]
  · simp only [h1,if_false,false_and]
def brk:St:=.mk 5 [] ⟨0,[]⟩ (.mk 0 0 [] 0 .nil []) (.mk 0 0 [] 0 .nil []) 0 .nil [] .nil []
section
variable {m:Mod} {f:Fl}
theorem blk_brk {gs:List Str} {ps:Int} {mn:Bool}:∀ (l:List St) (sc:List Fld),(blkF m gs ps mn 0 sc (l++[brk])).1≠0
  | [],sc=>by
    have h:stmtF m gs ps mn 0 sc brk=10:=by unfold brk;rw [stmtF];rfl
    rw [List.nil_append,blkF,h,if_pos (by decide)]
    show (10:Int)≠0
    decide
  | s::r,sc=>by
    rw [List.cons_append,blkF]
    split
    · rename_i h;exact h
    · exact blk_brk r _
theorem longer_no:checkF (m.wm f (m.mainS++[brk]))≠0:=by
  intro h
  have h6:=((check_iff _).1 h).2.2.2.2.2.1
  unfold mainF at h6
  rw [wm_blk] at h6
  exact blk_brk _ _ h6
theorem blk_pre {gs:List Str} {ps:Int} {mn:Bool} {lo:Int} {q:List St}:∀ (p:List St) (sc:List Fld),(blkF m gs ps mn lo sc (p++q)).1=0→(blkF m gs ps mn lo sc p).1=0
  | [],sc,_=>by rw [blkF]
  | s::r,sc,h=>by
    rw [List.cons_append,blkF] at h
    rw [blkF]
    split at h
    · rename_i hs;exact absurd h hs
    · rename_i hs;rw [if_neg hs];exact blk_pre r _ h
theorem nn_pre {q:List St}:∀ p:List St,nnS p≤nnS (p++q)
  | []=>(nnS_bd q).1
  | s::r=>by have:=nn_pre (q:=q) r;simp only [List.cons_append,nnS];omega
theorem wm_W (A:Int):∀ n,(∀ (m:Mod) sc e s c f l,(W A n).1 (m.wm f l) sc e s c=(W A n).1 m sc e s c)∧(∀ (m:Mod) sc b s c f l,(W A n).2 (m.wm f l) sc b s c=(W A n).2 m sc b s c)
  | 0=>⟨fun _ _ _ _ _ _ _=>rfl,fun _ _ _ _ _ _ _=>rfl⟩
  | n+1=>by
    obtain ⟨h1,h2⟩:=wm_W A n
    generalize hE:(W A n).1=Ef at h1
    generalize hB:(W A n).2=Bf at h2
    have hL:∀ (m:Mod) sc c f l (as:List Ex) s,wL Ef (m.wm f l) sc c as s=wL Ef m sc c as s:=by
      intro m sc c f l as
      induction as with
      | nil=>intro s;rfl
      | cons a r ih=>intro s;simp only [wL,h1,ih]
    have hP:∀ (m:Mod) f l (ps:List Fld) s,wP (m.wm f l) ps s=wP m ps s:=by
      intro m f l ps
      induction ps with
      | nil=>intro s;rfl
      | cons a r ih=>intro s;simp only [wP,wm_comp,ih]
    have hF:∀ (m:Mod) f l i s c,wF Ef Bf (m.wm f l) i s c=wF Ef Bf m i s c:=by
      intro m f l i s c
      unfold wF
      simp only [wm_win,h1,h2,hP]
      rfl
    have hS:∀ (m:Mod) f l sc st s c,wS Ef Bf (m.wm f l) sc st s c=wS Ef Bf m sc st s c:=by
      intro m f l sc st s c
      unfold wS
      simp only [h1,h2,wm_ex,wm_comp]
    have hW:∀ (m:Mod) f l c (b:List St) sc s,wB' Ef Bf (m.wm f l) c sc b s=wB' Ef Bf m c sc b s:=by
      intro m f l c b
      induction b with
      | nil=>intro sc s;rfl
      | cons a r ih=>intro sc s;simp only [wB',hS,ih]
    refine ⟨fun m sc e s c f l=>?_,fun m sc b s c f l=>?_⟩
    · obtain ⟨k,o,nm,x,fl,as⟩:=e
      have ho:∀ t,ownW (m.wm f l) sc k t=ownW m sc k t:=fun t=>by unfold ownW;rw [wm_comp]
      show wE' A (W A n).1 (W A n).2 (m.wm f l) sc (.mk k o nm x fl as) s c=wE' A (W A n).1 (W A n).2 m sc (.mk k o nm x fl as) s c
      rw [hE,hB]
      simp only [wE',wm_ex,hL,hF,ho]
      rfl
    · show wB' (W A n).1 (W A n).2 (m.wm f l) c sc b s=wB' (W A n).1 (W A n).2 m c sc b s
      rw [hE,hB]
      exact hW _ _ _ _ _ _ _
theorem wB_pre {Ef:EF} {Bf:BF} (hE:EMono Ef) (hB:BMono Bf) {c:Int} {q:List St}:∀ (p:List St) (sc:List Fld) (s:Int),s≤1000000→(wB' Ef Bf m c sc p s).1≤(wB' Ef Bf m c sc (p++q) s).1
  | [],sc,s,h=>(wB_mono hE hB q sc s h).1
  | a::r,sc,s,h=>by
    simp only [List.cons_append,wB']
    split
    · exact Int.le_refl _
    · exact wB_pre hE hB r _ _ (wS_mono hE hB h).2
theorem W_pre (A:Int) (n:Nat) {p q:List St}:((W A n).2 m [] p 0 0).1≤((W A n).2 m [] (p++q) 0 0).1:=by
  cases n with
  | zero=>exact Int.le_refl _
  | succ n =>
    obtain ⟨hE,hB⟩:=W_mono A n
    exact wB_pre hE hB p [] 0 (by omega)
theorem wei_at (m:Mod) (n:Nat) (h:n=fuelW m):weiF m=((W m.fs.length n).2 m [] m.mainS 0 0).1:=by subst h;rfl
theorem wei_pre {p q:List St} (h:m.mainS=p++q):weiF (m.wm f p)≤weiF m:=by
  have e0:(m.wm f p).fs=m.fs:=rfl
  have e3:(m.wm f p).mainS=p:=rfl
  have e:fuelW (m.wm f p)=fuelW m:=by unfold fuelW;rw [e0]
  obtain ⟨n,hn⟩:∃ n,n=fuelW m:=⟨_,rfl⟩
  rw [wei_at (m.wm f p) n (by rw [e,hn]),wei_at m n hn,e0,e3,(wm_W _ _).2,h]
  exact W_pre _ _
theorem sd_pre {q:List St}:∀ p:List St,sdS p≤sdS (p++q)
  | []=>(sdS_bd q).1
  | s::r=>by have:=sd_pre (q:=q) r;simp only [List.cons_append,sdS];omega
theorem xd_pre {q:List St}:∀ p:List St,xdS p≤xdS (p++q)
  | []=>xdS_bd q
  | s::r=>by have:=xd_pre (q:=q) r;simp only [List.cons_append,xdS];omega
theorem when_0 {b:Bool} {e:Int} (h:e≠0):whenF b e=0↔b=false:=by unfold whenF;cases b<;>simp [h]
theorem limB_0 (m:Mod):limB m=false↔nodesF m≤1000∧depthF m≤16∧manyF m≤16∧m.ts.length≤4∧m.bs.length≤4:=by
  unfold limB
  simp only [Bool.or_eq_false_iff,decide_eq_false_iff_not,Int.not_lt,gt_iff_lt]
  omega
theorem shorter_ok {p q:List St} (h:m.mainS=p++q) (hc:checkF m=0):checkF (m.wm f p)=0∧weiF (m.wm f p)≤weiF m:=by
  have hw:=wei_pre (f:=f) h
  refine ⟨?_,hw⟩
  obtain ⟨c1,c2,c3,c4,c5,c6,c7⟩:=(check_iff m).1 hc
  refine (check_iff _).2 ⟨?_,c2,c3,?_,?_,?_,?_⟩
  · unfold limF at c1 ⊢
    have es:(m.wm f p).stage=m.stage:=rfl
    rw [es]
    split
    · rename_i hs;rw [if_pos hs] at c1;exact c1
    · rename_i hs
      rw [if_neg hs,when_0 (by decide),limB_0] at c1
      rw [when_0 (by decide),limB_0]
      obtain ⟨d1,d2,d3,d4,d5⟩:=c1
      refine ⟨?_,?_,d3,d4,d5⟩
      · have:=nn_pre (q:=q) p
        unfold nodesF at d1 ⊢
        rw [h] at d1
        show nnS p+nnFs m.fs≤1000
        omega
      · have h1:=sd_pre (q:=q) p
        have h2:=xd_pre (q:=q) p
        unfold depthF at d2 ⊢
        rw [h] at d2
        show max (max (sdS p) (xdS p)) (ddFs m.fs)≤16
        omega
  · have:totB (m.wm f p)=totB m:=by unfold totB;rw [wm_tot,wm_tot,wm_tot];rfl
    rw [this];exact c4
  · have:=wm_funs (m:=m) (f:=f) (l:=p) m.fs 0 (globF m (structsF m [] 0).2).2.1 (globF m (structsF m [] 0).2).2.2
    show (funsG (m.wm f p) 0 m.fs (globF m (structsF m [] 0).2).2.1 (globF m (structsF m [] 0).2).2.2).1=0
    rw [this];exact c5
  · unfold mainF at c6 ⊢
    rw [wm_blk]
    rw [h] at c6
    exact blk_pre p [] c6
  · rw [when_0 (by decide)] at c7 ⊢
    simp only [decide_eq_false_iff_not,Int.not_lt,gt_iff_lt] at c7 ⊢
    omega
end
end
section
theorem brk_c:brk.c=[.int .i64 5,.str [],.int .i64 0,.str [],.int .i64 0,.int .i64 0,.str [],.int .i64 0,.vs .nil [],.int .i64 0,.int .i64 0,.str [],.int .i64 0,.vs .nil [],.int .i64 0,.vs .nil [],.vs .nil []]:=by simp [brk,St.c,Ex.c,exs,sts]
theorem wm_Ok {m:Mod} (hm:m.Ok) {f:Fl} {l:List St}:(m.wm f l).Ok:=⟨hm.ss,hm.us,hm.ts,hm.bs,hm.ins,hm.outs,hm.fs,hm.sf,hm.pf⟩
theorem check_own (m:Mod) (hm:m.Ok) (hfs:FsOk m) (l:List St) (hz:szS l+funZ m.fs≤1048576) (n:Nm) (g:Nat) (h:Heap) (hh:hget h n=some (.mem (sts l) g true 17)) :
    doCall E (callR E) 18 [.agg [.int .i64 m.stage,.vs m.sf (scts m.ss),.vs m.uf (flds m.us),.vs m.tf (strs m.ts),.vs m.bf (strs m.bs),.vs m.nf (flds m.ins),.vs m.of (flds m.outs),.vs m.ff (funs m.fs),.sl n g 0 l.length]] h=some (.int .i64 (checkF (m.wm .any l)),h):=by
  have ht:(sts l).take l.length=sts l:=List.take_of_length_le (by rw [Y8];exact Nat.le_refl _)
  refine call_snap (pf:=p18) (args':=[.agg (m.wm .any l).c]) rfl rfl (by simp [PV.lowL,PV.low,Zj,Zi,Zk,Zl]<;>rfl) ?_ (by have:=(m.wm .any l).hm;simp [PV.lowL,PV.low,Zj,Zi,Zk,Zl,this]) (check_ok (m.wm .any l) (wm_Ok hm) ⟨hz⟩ hfs _) rfl
  simp [mapO,snap,PV.low,PV.lowL,Zj,Zi,Zk,Zl,hh,Y8,ht,Mod.wm,Mod.main]
theorem szS_app:∀ (l r:List St),szS (l++r)=szS l+szS r
  | [],r=>by simp [szS]
  | s::l,r=>by have:=szS_app l r;simp only [List.cons_append,szS];omega
theorem szS_take:∀ (l:List St) (k:Nat),szS (l.take k)≤szS l
  | [],k=>by simp [szS]
  | s::r,0=>by simp [szS]
  | s::r,k+1=>by have:=szS_take r k;simp only [List.take_succ_cons,szS];omega
theorem main_hd (m:Mod):headSz 17 m.main=true:=by
  unfold Mod.main
  rw [Xq]
  cases m.mainS with
  | nil=>rfl
  | cons a r=>obtain ⟨k,nm,t,tg,v,ct,fb,b,fe,e⟩:=a;simp [headSz,PV.cells,St.c,Ex.c_len]
set_option maxHeartbeats 8000000 in
theorem law7 (m:Mod) (hm:m.Ok) (hz:m.OkZ) (hfs:FsOk m) (hb:szS m.mainS+funZ m.fs≤1048573) (h:Heap):doCall E (callR E) 7 [.agg m.c] h=some (.bool true,h):=by
  have h1:=m.hm
  have hq:=fun h=>check_ok m hm hz hfs h
  have hll:=szS_len m.mainS
  have htot:=hz.tot
  have hzb:szS (m.mainS++[brk])+funZ m.fs≤1048576:=by
    have e:szS (m.mainS++[brk])=szS m.mainS+3:=by rw [szS_app];rfl
    omega
  have hml:m.main.length=m.mainS.length:=Y8
  have hmd:=main_hd m
  have htk:m.main.take m.mainS.length=m.main:=by rw [← hml];exact List.take_length
  refine Zg (pf:=p7) rfl rfl rfl rfl (by simp [PV.lowL,PV.low,Zj,Zi,Zk,Zl,h1]) (by simp [PV.low,PV.lowL,Zj,Zi,Zk,Zl,h1]) ?_ h
  show kQ E _ (endQ [⟨2,none⟩] _) .norm { lvl:=0,tmps:=mk 48 [(0,.agg m.c)],heap:=[[none,none,none,none]],defers:=[] }
  have pu13:pureB E 13=true:=rfl
  have htk2:∀ k:Nat,m.main.take k=sts (m.mainS.take k):=fun k=>by unfold Mod.main;simp [Xq,List.map_take]
  have ht2:szS (m.mainS.take ((m.mainS.length - 1:Int).toNat))+funZ m.fs≤1048576:=by have:=szS_take m.mainS ((m.mainS.length - 1:Int).toNat);omega
  have hq2:∀ o0 o1,doCall E (callR E) 18 [.agg [.int .i64 m.stage,.vs m.sf (scts m.ss),.vs m.uf (flds m.us),.vs m.tf (strs m.ts),.vs m.bf (strs m.bs),.vs m.nf (flds m.ins),.vs m.of (flds m.outs),.vs m.ff (funs m.fs),.sl (0,2) 2 0 (m.mainS.length+1)]] [[o0,o1,some (.mem (m.main++[.agg brk.c]) 2 true 17),none]]=some (.int .i64 (checkF (m.wm .any (m.mainS++[brk]))),[[o0,o1,some (.mem (m.main++[.agg brk.c]) 2 true 17),none]]):=by
    intro o0 o1
    have hs:m.main++[.agg brk.c]=sts (m.mainS++[brk]):=by unfold Mod.main;simp [Xq]
    rw [hs]
    have:=check_own m hm hfs (m.mainS++[brk]) hzb (0,2) 2 [[o0,o1,some (.mem (sts (m.mainS++[brk])) 2 true 17),none]] rfl
    rw [List.length_append] at this
    exact this
  rw [brk_c] at hq2
  have hq3:∀ fl h,doCall E (callR E) 18 [.agg [.int .i64 m.stage,.vs m.sf (scts m.ss),.vs m.uf (flds m.us),.vs m.tf (strs m.ts),.vs m.bf (strs m.bs),.vs m.nf (flds m.ins),.vs m.of (flds m.outs),.vs m.ff (funs m.fs),.vs fl (m.main.take ((m.mainS.length - 1:Int).toNat))]] h=some (.int .i64 (checkF (m.wm fl (m.mainS.take ((m.mainS.length - 1:Int).toNat)))),h):=fun fl h=>by
    rw [htk2]
    exact check_ok (m.wm fl _) (wm_Ok hm) ⟨ht2⟩ hfs h
  have hw3:∀ fl h,doCall E (callR E) 13 [.agg [.int .i64 m.stage,.vs m.sf (scts m.ss),.vs m.uf (flds m.us),.vs m.tf (strs m.ts),.vs m.bf (strs m.bs),.vs m.nf (flds m.ins),.vs m.of (flds m.outs),.vs m.ff (funs m.fs),.vs fl (m.main.take ((m.mainS.length - 1:Int).toNat))]] h=some (.int .i64 (weiF (m.wm fl (m.mainS.take ((m.mainS.length - 1:Int).toNat)))),h):=fun fl h=>by
    rw [htk2]
    exact weight_ok (m.wm fl _) (wm_Ok hm) hfs (show szS (m.mainS.take ((m.mainS.length - 1:Int).toNat))≤1048576 by omega) h
  have hw:=fun h=>weight_ok m hm hfs (by omega) h
  by_cases hc:checkF m=0
  · have hsh:=fun fl=>shorter_ok (f:=fl) (List.take_append_drop ((m.mainS.length - 1:Int).toNat) m.mainS).symm hc
    have s1:=fun fl=>(hsh fl).1
    have s2:=fun fl=>(hsh fl).2
    have hl:=longer_no (m:=m) (f:=.any)
    by_cases hn:m.mainS.length>0
    · repeat' first|(with_reducible first|refine cS ?_ ?_|refine oS ?_ ?_|refine dS ?_ ?_)<;>intro _|((with_reducible refine kk ?_ ?_);·rfl)|simp -implicitDefEqProofs(disch:=first|omega|assumption)only[push_cast,simprocAttr,Zd,Zc,Ze,Zb,h1,hq,hq2,hq3,hw,hw3,hl,s1,s2,hc,hml,hmd,hn,htk,boundsE,bound,ex_ok,Yp,Yl,Yk,Yj,Yg,Ys,Yf,stabG,stabS,Z1,Yb,Z0,Zt,Zy,Z9,Ya,Zz,Zu,Zp]|(with_reducible first|refine cB ?_ ?_|refine oB ?_ ?_|refine dB ?_ ?_)<;>intro _|with_reducible first|refine Z2 ?_ ?_|refine Z3 (by decide) ?_|refine Z4 (by decide) ?_ ?_|exact Z5|refine Zx ?_|refine Zq ?_
      all_goals (set_option pp.deepTerms true in trace_state)
    · repeat' first|(with_reducible first|refine cS ?_ ?_|refine oS ?_ ?_|refine dS ?_ ?_)<;>intro _|((with_reducible refine kk ?_ ?_);·rfl)|simp -implicitDefEqProofs(disch:=first|omega|assumption)only[push_cast,simprocAttr,Zd,Zc,Ze,Zb,h1,hq,hq2,hw,hl,hc,hml,hmd,hn,htk,boundsE,bound,ex_ok,Yp,Yl,Yk,Yj,Yg,Ys,Yf,stabG,stabS,Z1,Yb,Z0,Zt,Zy,Z9,Ya,Zz,Zu,Zp]|(with_reducible first|refine cB ?_ ?_|refine oB ?_ ?_|refine dB ?_ ?_)<;>intro _|with_reducible first|refine Z2 ?_ ?_|refine Z3 (by decide) ?_|refine Z4 (by decide) ?_ ?_|exact Z5|refine Zx ?_|refine Zq ?_
      all_goals (set_option pp.deepTerms true in trace_state)
  · repeat' first|(with_reducible first|refine cS ?_ ?_|refine oS ?_ ?_|refine dS ?_ ?_)<;>intro _|((with_reducible refine kk ?_ ?_);·rfl)|simp -implicitDefEqProofs(disch:=first|omega|assumption)only[push_cast,simprocAttr,Zd,Zc,Ze,Zb,h1,hq,hc,ex_ok]|(with_reducible first|refine cB ?_ ?_|refine oB ?_ ?_|refine dB ?_ ?_)<;>intro _
end
end Go.VI.S
