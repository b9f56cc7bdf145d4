/- Chapter 28: the weight of an expression. -/
import Derived.Test.YtjhaldbohblieaaGreatDoorME
set_option maxRecDepth 100000
set_option linter.unusedSimpArgs false
set_option linter.unusedVariables false
set_option linter.unusedSectionVars false
namespace Go.VI.S
open Go.VI
section
def Ub (Bf:BF) (m:Mod) (sc:List Fld) (A c:Int) (l:List St):Prop:=∀ (fs f:Fl) (q:Int) (H:Heap),0≤q→q≤1000000→heapLow (H.length+1) H=true →
 ∃ fl',doCall E (callR E) 64 [.ptr (0,0) 1 0 0,.agg m.c,.vs fs (flds sc),.vs f (sts l)] (wH A q c H)=some (.vs fl' (flds (Bf m sc l q c).2),wH A (Bf m sc l q c).1 c H)
theorem Xw {l:List Ex} {n:Nat}:(exs l).drop n=exs (l.drop n):=by simp [exs_map,List.map_drop]
theorem Wn {l:List Ex}:headSz 5 (exs l)=true:=by
 cases l with
 | nil=>rfl
 | cons a r=>simp only [exs,headSz,PV.cells];rw [a.c_len];rfl
theorem Wm {l:List Ex}:(exs l).take l.length=exs l:=List.take_of_length_le (by rw [exs_len];exact Nat.le_refl _)
section
variable (m:Mod) (hm:m.Ok) (sc:List Fld) (A c:Int) (hc0:0≤c) (hc1:c≤4194304) (Ef:EF) (Bf:BF) (hEm:Ww Ef) (hBm:W2 Bf)
include hm hEm in
set_option maxHeartbeats 8000000 in
theorem we_err (k o x tk er:Int) (nm tn:Str) (fs fl:Fl) (as:List Ex) (q:Int) (H:Heap) (h0:0≤q) (h1:¬ q≥1000000) (hH:heapLow (H.length+1) H=true) (has:as.length≤1048576) (hE:∀ a∈as,Wo Ef m sc A c a)
  (hx:∀ h,doCall E (callR E) 63 [.agg m.c,.vs fs (flds sc),.agg [.int .i64 k,.int .i64 o,.str nm,.int .i64 x,.vs fl (exs as)]] h=some (encR (⟨tk,tn⟩,er),h)) (he:¬ er=0) :
  doCall E (callR E) 95 [.ptr (0,0) 1 0 0,.agg m.c,.vs fs (flds sc),.agg [.int .i64 k,.int .i64 o,.str nm,.int .i64 x,.vs fl (exs as)]] (wH A q c H)=some (.tuple [],wH A (wL Ef m sc c (as) (X8 q ((1:Int)))) c H):=by
 have hl:=m.hm
 have hw:=fun s=>Wf (k:=H.length+1) (A:=A) (s:=s) (c:=c)
 have qw:=fun h=>Xa nm h
 have qs:=fun h=>Yr m hm nm h
 have qb:=fun h=>blt_ok nm h
 have qf:=fun h=>Xj m hm nm h
 have qt:=fun h=>Yg m hm k o x nm fl as h
 have qc:=fun h=>Xh m hm tk tn h
 have hcb:=Yt m tk tn
 have ho:∀ k,[some (.mem [.agg [.int .i64 tk,.str tn]] 1 false 2),none,none,none,none].all (obLow k)=true:=fun k=>by simp [obLow,PV.lowL,PV.low]
 have ho4:∀ k,[some (.mem [.agg [.int .i64 tk,.str tn]] 1 false 2),none,none,none].all (obLow k)=true:=fun k=>by simp [obLow,PV.lowL,PV.low]
 have hadd:=fun n h3 h4=>X6 A q c n h0 (by omega) h3 h4 (H++[[some (.mem [.agg [.int .i64 tk,.str tn]] 1 false 2),none,none,none,none]]) (Wj hH ho)
 have hn:0≤(1:Int)∧(1:Int)≤1000:=⟨by omega,by omega⟩
 have hadd:=hadd ((1:Int)) hn.1 hn.2
 refine Z7 (pf:=p95) rfl rfl rfl rfl rfl (by simp [PV.lowL,PV.low]) ?_
 show kQ E _ (endM [] _ _ _) .norm { lvl:=H.length+1,tmps:=mk 168 [(0,.ptr (0,0) 1 0 0),(1,.agg m.c),(2,.vs fs (flds sc)),(3,.agg [.int .i64 k,.int .i64 o,.str nm,.int .i64 x,.vs fl (exs as)])],heap:=[wO A q c]::(H++[[none,none,none,none,none]]),defers:=[] }
 repeat' first|(with_reducible first|refine cS ?_ ?_|refine oS ?_ ?_|refine dS ?_ ?_)<;>intro _|((with_reducible refine kk ?_ ?_);·rfl)|simp -implicitDefEqProofs(disch:=first|omega|assumption)only[push_cast,simprocAttr,Zd,Zc,Ze,Zb,hl,hx,qw,qs,qb,qf,qt,qc,hadd,Yf,Wn,Xw,Wm,h1,he]|(with_reducible first|refine cB ?_ ?_|refine oB ?_ ?_|refine dB ?_ ?_)<;>intro _
 have hmo:=Yy (s:=q) (n:=(1:Int)) (by omega) hn.1
 with_reducible refine We m sc (as) has (fs:=fs) (fl:=fl) Ef hEm A c hE H hH (o0:=some (.mem [.agg [.int .i64 tk,.str tn]] 1 false 2)) (o2:=none) (o3:=none) (o4:=none) ho4 (v10:=.int .i64 (-1)) (wL Ef m sc c (as) (X8 q ((1:Int)))) ?_ (as) [] (X8 q ((1:Int))) none _ rfl rfl (by omega) hmo.2 (fun _=>rfl) (by simp [look,Za,Fl.full, *]) (by simp [look,Za,Fl.full, *]) (by simp [look,Za,Fl.full, *]) (by simp [look,Za,Fl.full, *]) (by simp [look,Za,Fl.full, *]) (by simp [look,Za,Fl.full, *]) (by simp [look,Za,Fl.full, *])
 intro t q2 o1 e2 b1 b2 ho1 k0 k5 k10
 subst e2
 repeat' first|(with_reducible first|refine cS ?_ ?_|refine oS ?_ ?_|refine dS ?_ ?_)<;>intro _|((with_reducible refine kk ?_ ?_);·rfl)|simp -implicitDefEqProofs(disch:=first|omega|assumption)only[push_cast,simprocAttr,Zd,Zc,Ze,Zb,k0,k5,k10,hw,hH,Zm,Zn,allMarks,List.all_cons,List.all_nil]|(with_reducible first|refine cB ?_ ?_|refine oB ?_ ?_|refine dB ?_ ?_)<;>intro _
include hm hEm in
set_option maxHeartbeats 8000000 in
theorem we_k9 (o x tk er:Int) (nm tn:Str) (fs fl:Fl) (as:List Ex) (q:Int) (H:Heap) (h0:0≤q) (h1:¬ q≥1000000) (hH:heapLow (H.length+1) H=true) (has:as.length≤1048576) (hE:∀ a∈as,Wo Ef m sc A c a)
  (hx:∀ h,doCall E (callR E) 63 [.agg m.c,.vs fs (flds sc),.agg [.int .i64 9,.int .i64 o,.str nm,.int .i64 x,.vs fl (exs as)]] h=some (encR (⟨tk,tn⟩,er),h)) (he:er=0) (ht:takesF m 9 nm=false) :
  doCall E (callR E) 95 [.ptr (0,0) 1 0 0,.agg m.c,.vs fs (flds sc),.agg [.int .i64 9,.int .i64 o,.str nm,.int .i64 x,.vs fl (exs as)]] (wH A q c H)=some (.tuple [],wH A (wL Ef m sc c (as) (X8 q ((4:Int)))) c H):=by
 have hl:=m.hm
 have hw:=fun s=>Wf (k:=H.length+1) (A:=A) (s:=s) (c:=c)
 have qw:=fun h=>Xa nm h
 have qs:=fun h=>Yr m hm nm h
 have qb:=fun h=>blt_ok nm h
 have qf:=fun h=>Xj m hm nm h
 have qt:=fun h=>Yg m hm 9 o x nm fl as h
 have qc:=fun h=>Xh m hm tk tn h
 have hcb:=Yt m tk tn
 have ho:∀ k,[some (.mem [.agg [.int .i64 tk,.str tn]] 1 false 2),none,none,none,none].all (obLow k)=true:=fun k=>by simp [obLow,PV.lowL,PV.low]
 have ho4:∀ k,[some (.mem [.agg [.int .i64 tk,.str tn]] 1 false 2),none,none,none].all (obLow k)=true:=fun k=>by simp [obLow,PV.lowL,PV.low]
 have hadd:=fun n h3 h4=>X6 A q c n h0 (by omega) h3 h4 (H++[[some (.mem [.agg [.int .i64 tk,.str tn]] 1 false 2),none,none,none,none]]) (Wj hH ho)
 have hn:0≤(4:Int)∧(4:Int)≤1000:=⟨by omega,by omega⟩
 have hadd:=hadd ((4:Int)) hn.1 hn.2
 refine Z7 (pf:=p95) rfl rfl rfl rfl rfl (by simp [PV.lowL,PV.low]) ?_
 show kQ E _ (endM [] _ _ _) .norm { lvl:=H.length+1,tmps:=mk 168 [(0,.ptr (0,0) 1 0 0),(1,.agg m.c),(2,.vs fs (flds sc)),(3,.agg [.int .i64 9,.int .i64 o,.str nm,.int .i64 x,.vs fl (exs as)])],heap:=[wO A q c]::(H++[[none,none,none,none,none]]),defers:=[] }
 repeat' first|(with_reducible first|refine cS ?_ ?_|refine oS ?_ ?_|refine dS ?_ ?_)<;>intro _|((with_reducible refine kk ?_ ?_);·rfl)|simp -implicitDefEqProofs(disch:=first|omega|assumption)only[push_cast,simprocAttr,Zd,Zc,Ze,Zb,hl,hx,qw,qs,qb,qf,qt,qc,hadd,Yf,Wn,Xw,Wm,h1,he,ht]|(with_reducible first|refine cB ?_ ?_|refine oB ?_ ?_|refine dB ?_ ?_)<;>intro _
 have hmo:=Yy (s:=q) (n:=(4:Int)) (by omega) hn.1
 with_reducible refine We m sc (as) has (fs:=fs) (fl:=fl) Ef hEm A c hE H hH (o0:=some (.mem [.agg [.int .i64 tk,.str tn]] 1 false 2)) (o2:=none) (o3:=none) (o4:=none) ho4 (v10:=.int .i64 (-1)) (wL Ef m sc c (as) (X8 q ((4:Int)))) ?_ (as) [] (X8 q ((4:Int))) none _ rfl rfl (by omega) hmo.2 (fun _=>rfl) (by simp [look,Za,Fl.full, *]) (by simp [look,Za,Fl.full, *]) (by simp [look,Za,Fl.full, *]) (by simp [look,Za,Fl.full, *]) (by simp [look,Za,Fl.full, *]) (by simp [look,Za,Fl.full, *]) (by simp [look,Za,Fl.full, *])
 intro t q2 o1 e2 b1 b2 ho1 k0 k5 k10
 subst e2
 repeat' first|(with_reducible first|refine cS ?_ ?_|refine oS ?_ ?_|refine dS ?_ ?_)<;>intro _|((with_reducible refine kk ?_ ?_);·rfl)|simp -implicitDefEqProofs(disch:=first|omega|assumption)only[push_cast,simprocAttr,Zd,Zc,Ze,Zb,k0,k5,k10,hw,hH,Zm,Zn,allMarks,List.all_cons,List.all_nil]|(with_reducible first|refine cB ?_ ?_|refine oB ?_ ?_|refine dB ?_ ?_)<;>intro _
include hm hEm in
set_option maxHeartbeats 8000000 in
theorem we_k (k o x tk er:Int) (nm tn:Str) (fs fl:Fl) (as:List Ex) (q:Int) (H:Heap) (h0:0≤q) (h1:¬ q≥1000000) (hH:heapLow (H.length+1) H=true) (has:as.length≤1048576) (hE:∀ a∈as,Wo Ef m sc A c a)
  (hx:∀ h,doCall E (callR E) 63 [.agg m.c,.vs fs (flds sc),.agg [.int .i64 k,.int .i64 o,.str nm,.int .i64 x,.vs fl (exs as)]] h=some (encR (⟨tk,tn⟩,er),h)) (he:er=0) (ht:takesF m k nm=false) (k7:¬ k=7) (k9:¬ k=9) :
  doCall E (callR E) 95 [.ptr (0,0) 1 0 0,.agg m.c,.vs fs (flds sc),.agg [.int .i64 k,.int .i64 o,.str nm,.int .i64 x,.vs fl (exs as)]] (wH A q c H)=some (.tuple [],wH A (wL Ef m sc c (as) (X8 q (mxI 1 (compF m tk tn)))) c H):=by
 have hl:=m.hm
 have hw:=fun s=>Wf (k:=H.length+1) (A:=A) (s:=s) (c:=c)
 have qw:=fun h=>Xa nm h
 have qs:=fun h=>Yr m hm nm h
 have qb:=fun h=>blt_ok nm h
 have qf:=fun h=>Xj m hm nm h
 have qt:=fun h=>Yg m hm k o x nm fl as h
 have qc:=fun h=>Xh m hm tk tn h
 have hcb:=Yt m tk tn
 have ho:∀ k,[some (.mem [.agg [.int .i64 tk,.str tn]] 1 false 2),none,none,none,none].all (obLow k)=true:=fun k=>by simp [obLow,PV.lowL,PV.low]
 have ho4:∀ k,[some (.mem [.agg [.int .i64 tk,.str tn]] 1 false 2),none,none,none].all (obLow k)=true:=fun k=>by simp [obLow,PV.lowL,PV.low]
 have hadd:=fun n h3 h4=>X6 A q c n h0 (by omega) h3 h4 (H++[[some (.mem [.agg [.int .i64 tk,.str tn]] 1 false 2),none,none,none,none]]) (Wj hH ho)
 have hn:0≤mxI 1 (compF m tk tn)∧mxI 1 (compF m tk tn)≤1000:=by unfold mxI;split<;>omega
 have hadd:=hadd (mxI 1 (compF m tk tn)) hn.1 hn.2
 refine Z7 (pf:=p95) rfl rfl rfl rfl rfl (by simp [PV.lowL,PV.low]) ?_
 show kQ E _ (endM [] _ _ _) .norm { lvl:=H.length+1,tmps:=mk 168 [(0,.ptr (0,0) 1 0 0),(1,.agg m.c),(2,.vs fs (flds sc)),(3,.agg [.int .i64 k,.int .i64 o,.str nm,.int .i64 x,.vs fl (exs as)])],heap:=[wO A q c]::(H++[[none,none,none,none,none]]),defers:=[] }
 repeat' first|(with_reducible first|refine cS ?_ ?_|refine oS ?_ ?_|refine dS ?_ ?_)<;>intro _|((with_reducible refine kk ?_ ?_);·rfl)|simp -implicitDefEqProofs(disch:=first|omega|assumption)only[push_cast,simprocAttr,Zd,Zc,Ze,Zb,hl,hx,qw,qs,qb,qf,qt,qc,hadd,Yf,Wn,Xw,Wm,h1,he,ht,k7,k9]|(with_reducible first|refine cB ?_ ?_|refine oB ?_ ?_|refine dB ?_ ?_)<;>intro _
 have hmo:=Yy (s:=q) (n:=mxI 1 (compF m tk tn)) (by omega) hn.1
 with_reducible refine We m sc (as) has (fs:=fs) (fl:=fl) Ef hEm A c hE H hH (o0:=some (.mem [.agg [.int .i64 tk,.str tn]] 1 false 2)) (o2:=none) (o3:=none) (o4:=none) ho4 (v10:=.int .i64 (-1)) (wL Ef m sc c (as) (X8 q (mxI 1 (compF m tk tn)))) ?_ (as) [] (X8 q (mxI 1 (compF m tk tn))) none _ rfl rfl (by omega) hmo.2 (fun _=>rfl) (by simp [look,Za,Fl.full, *]) (by simp [look,Za,Fl.full, *]) (by simp [look,Za,Fl.full, *]) (by simp [look,Za,Fl.full, *]) (by simp [look,Za,Fl.full, *]) (by simp [look,Za,Fl.full, *]) (by simp [look,Za,Fl.full, *])
 intro t q2 o1 e2 b1 b2 ho1 k0 k5 k10
 subst e2
 repeat' first|(with_reducible first|refine cS ?_ ?_|refine oS ?_ ?_|refine dS ?_ ?_)<;>intro _|((with_reducible refine kk ?_ ?_);·rfl)|simp -implicitDefEqProofs(disch:=first|omega|assumption)only[push_cast,simprocAttr,Zd,Zc,Ze,Zb,k0,k5,k10,hw,hH,Zm,Zn,allMarks,List.all_cons,List.all_nil]|(with_reducible first|refine cB ?_ ?_|refine oB ?_ ?_|refine dB ?_ ?_)<;>intro _
include hm hEm in
set_option maxHeartbeats 8000000 in
theorem we_wf (o x tk er:Int) (nm tn:Str) (fs fl:Fl) (as:List Ex) (q:Int) (H:Heap) (h0:0≤q) (h1:¬ q≥1000000) (hH:heapLow (H.length+1) H=true) (has:as.length≤1048576) (hE:∀ a∈as,Wo Ef m sc A c a)
  (hx:∀ h,doCall E (callR E) 63 [.agg m.c,.vs fs (flds sc),.agg [.int .i64 7,.int .i64 o,.str nm,.int .i64 x,.vs fl (exs as)]] h=some (encR (⟨tk,tn⟩,er),h)) (he:er=0) (ht:takesF m 7 nm=false) (w0:¬ wordF nm=0) :
  doCall E (callR E) 95 [.ptr (0,0) 1 0 0,.agg m.c,.vs fs (flds sc),.agg [.int .i64 7,.int .i64 o,.str nm,.int .i64 x,.vs fl (exs as)]] (wH A q c H)=some (.tuple [],wH A (wL Ef m sc c (as) (X8 q (mxI 1 (compF m tk tn)))) c H):=by
 have hl:=m.hm
 have hw:=fun s=>Wf (k:=H.length+1) (A:=A) (s:=s) (c:=c)
 have qw:=fun h=>Xa nm h
 have qs:=fun h=>Yr m hm nm h
 have qb:=fun h=>blt_ok nm h
 have qf:=fun h=>Xj m hm nm h
 have qt:=fun h=>Yg m hm 7 o x nm fl as h
 have qc:=fun h=>Xh m hm tk tn h
 have hcb:=Yt m tk tn
 have ho:∀ k,[some (.mem [.agg [.int .i64 tk,.str tn]] 1 false 2),none,none,none,none].all (obLow k)=true:=fun k=>by simp [obLow,PV.lowL,PV.low]
 have ho4:∀ k,[some (.mem [.agg [.int .i64 tk,.str tn]] 1 false 2),none,none,none].all (obLow k)=true:=fun k=>by simp [obLow,PV.lowL,PV.low]
 have hadd:=fun n h3 h4=>X6 A q c n h0 (by omega) h3 h4 (H++[[some (.mem [.agg [.int .i64 tk,.str tn]] 1 false 2),none,none,none,none]]) (Wj hH ho)
 have hn:0≤mxI 1 (compF m tk tn)∧mxI 1 (compF m tk tn)≤1000:=by unfold mxI;split<;>omega
 have hadd:=hadd (mxI 1 (compF m tk tn)) hn.1 hn.2
 refine Z7 (pf:=p95) rfl rfl rfl rfl rfl (by simp [PV.lowL,PV.low]) ?_
 show kQ E _ (endM [] _ _ _) .norm { lvl:=H.length+1,tmps:=mk 168 [(0,.ptr (0,0) 1 0 0),(1,.agg m.c),(2,.vs fs (flds sc)),(3,.agg [.int .i64 7,.int .i64 o,.str nm,.int .i64 x,.vs fl (exs as)])],heap:=[wO A q c]::(H++[[none,none,none,none,none]]),defers:=[] }
 repeat' first|(with_reducible first|refine cS ?_ ?_|refine oS ?_ ?_|refine dS ?_ ?_)<;>intro _|((with_reducible refine kk ?_ ?_);·rfl)|simp -implicitDefEqProofs(disch:=first|omega|assumption)only[push_cast,simprocAttr,Zd,Zc,Ze,Zb,hl,hx,qw,qs,qb,qf,qt,qc,hadd,Yf,Wn,Xw,Wm,h1,he,ht,w0]|(with_reducible first|refine cB ?_ ?_|refine oB ?_ ?_|refine dB ?_ ?_)<;>intro _
 have hmo:=Yy (s:=q) (n:=mxI 1 (compF m tk tn)) (by omega) hn.1
 with_reducible refine We m sc (as) has (fs:=fs) (fl:=fl) Ef hEm A c hE H hH (o0:=some (.mem [.agg [.int .i64 tk,.str tn]] 1 false 2)) (o2:=none) (o3:=none) (o4:=none) ho4 (v10:=.int .i64 (-1)) (wL Ef m sc c (as) (X8 q (mxI 1 (compF m tk tn)))) ?_ (as) [] (X8 q (mxI 1 (compF m tk tn))) none _ rfl rfl (by omega) hmo.2 (fun _=>rfl) (by simp [look,Za,Fl.full, *]) (by simp [look,Za,Fl.full, *]) (by simp [look,Za,Fl.full, *]) (by simp [look,Za,Fl.full, *]) (by simp [look,Za,Fl.full, *]) (by simp [look,Za,Fl.full, *]) (by simp [look,Za,Fl.full, *])
 intro t q2 o1 e2 b1 b2 ho1 k0 k5 k10
 subst e2
 repeat' first|(with_reducible first|refine cS ?_ ?_|refine oS ?_ ?_|refine dS ?_ ?_)<;>intro _|((with_reducible refine kk ?_ ?_);·rfl)|simp -implicitDefEqProofs(disch:=first|omega|assumption)only[push_cast,simprocAttr,Zd,Zc,Ze,Zb,k0,k5,k10,hw,hH,Zm,Zn,allMarks,List.all_cons,List.all_nil]|(with_reducible first|refine cB ?_ ?_|refine oB ?_ ?_|refine dB ?_ ?_)<;>intro _
include hm hEm in
set_option maxHeartbeats 8000000 in
theorem we_sf (o x tk er:Int) (nm tn:Str) (fs fl:Fl) (as:List Ex) (q:Int) (H:Heap) (h0:0≤q) (h1:¬ q≥1000000) (hH:heapLow (H.length+1) H=true) (has:as.length≤1048576) (hE:∀ a∈as,Wo Ef m sc A c a)
  (hx:∀ h,doCall E (callR E) 63 [.agg m.c,.vs fs (flds sc),.agg [.int .i64 7,.int .i64 o,.str nm,.int .i64 x,.vs fl (exs as)]] h=some (encR (⟨tk,tn⟩,er),h)) (he:er=0) (ht:takesF m 7 nm=false) (w0:wordF nm=0) (s0:¬ stF m nm<0) :
  doCall E (callR E) 95 [.ptr (0,0) 1 0 0,.agg m.c,.vs fs (flds sc),.agg [.int .i64 7,.int .i64 o,.str nm,.int .i64 x,.vs fl (exs as)]] (wH A q c H)=some (.tuple [],wH A (wL Ef m sc c (as) (X8 q (mxI 1 (compF m tk tn)))) c H):=by
 have hl:=m.hm
 have hw:=fun s=>Wf (k:=H.length+1) (A:=A) (s:=s) (c:=c)
 have qw:=fun h=>Xa nm h
 have qs:=fun h=>Yr m hm nm h
 have qb:=fun h=>blt_ok nm h
 have qf:=fun h=>Xj m hm nm h
 have qt:=fun h=>Yg m hm 7 o x nm fl as h
 have qc:=fun h=>Xh m hm tk tn h
 have hcb:=Yt m tk tn
 have ho:∀ k,[some (.mem [.agg [.int .i64 tk,.str tn]] 1 false 2),none,none,none,none].all (obLow k)=true:=fun k=>by simp [obLow,PV.lowL,PV.low]
 have ho4:∀ k,[some (.mem [.agg [.int .i64 tk,.str tn]] 1 false 2),none,none,none].all (obLow k)=true:=fun k=>by simp [obLow,PV.lowL,PV.low]
 have hadd:=fun n h3 h4=>X6 A q c n h0 (by omega) h3 h4 (H++[[some (.mem [.agg [.int .i64 tk,.str tn]] 1 false 2),none,none,none,none]]) (Wj hH ho)
 have hn:0≤mxI 1 (compF m tk tn)∧mxI 1 (compF m tk tn)≤1000:=by unfold mxI;split<;>omega
 have hadd:=hadd (mxI 1 (compF m tk tn)) hn.1 hn.2
 refine Z7 (pf:=p95) rfl rfl rfl rfl rfl (by simp [PV.lowL,PV.low]) ?_
 show kQ E _ (endM [] _ _ _) .norm { lvl:=H.length+1,tmps:=mk 168 [(0,.ptr (0,0) 1 0 0),(1,.agg m.c),(2,.vs fs (flds sc)),(3,.agg [.int .i64 7,.int .i64 o,.str nm,.int .i64 x,.vs fl (exs as)])],heap:=[wO A q c]::(H++[[none,none,none,none,none]]),defers:=[] }
 repeat' first|(with_reducible first|refine cS ?_ ?_|refine oS ?_ ?_|refine dS ?_ ?_)<;>intro _|((with_reducible refine kk ?_ ?_);·rfl)|simp -implicitDefEqProofs(disch:=first|omega|assumption)only[push_cast,simprocAttr,Zd,Zc,Ze,Zb,hl,hx,qw,qs,qb,qf,qt,qc,hadd,Yf,Wn,Xw,Wm,h1,he,ht,w0,s0]|(with_reducible first|refine cB ?_ ?_|refine oB ?_ ?_|refine dB ?_ ?_)<;>intro _
 have hmo:=Yy (s:=q) (n:=mxI 1 (compF m tk tn)) (by omega) hn.1
 with_reducible refine We m sc (as) has (fs:=fs) (fl:=fl) Ef hEm A c hE H hH (o0:=some (.mem [.agg [.int .i64 tk,.str tn]] 1 false 2)) (o2:=none) (o3:=none) (o4:=none) ho4 (v10:=.int .i64 (-1)) (wL Ef m sc c (as) (X8 q (mxI 1 (compF m tk tn)))) ?_ (as) [] (X8 q (mxI 1 (compF m tk tn))) none _ rfl rfl (by omega) hmo.2 (fun _=>rfl) (by simp [look,Za,Fl.full, *]) (by simp [look,Za,Fl.full, *]) (by simp [look,Za,Fl.full, *]) (by simp [look,Za,Fl.full, *]) (by simp [look,Za,Fl.full, *]) (by simp [look,Za,Fl.full, *]) (by simp [look,Za,Fl.full, *])
 intro t q2 o1 e2 b1 b2 ho1 k0 k5 k10
 subst e2
 repeat' first|(with_reducible first|refine cS ?_ ?_|refine oS ?_ ?_|refine dS ?_ ?_)<;>intro _|((with_reducible refine kk ?_ ?_);·rfl)|simp -implicitDefEqProofs(disch:=first|omega|assumption)only[push_cast,simprocAttr,Zd,Zc,Ze,Zb,k0,k5,k10,hw,hH,Zm,Zn,allMarks,List.all_cons,List.all_nil]|(with_reducible first|refine cB ?_ ?_|refine oB ?_ ?_|refine dB ?_ ?_)<;>intro _
include hm hEm in
set_option maxHeartbeats 8000000 in
theorem we_bf (o x tk er:Int) (nm tn:Str) (fs fl:Fl) (as:List Ex) (q:Int) (H:Heap) (h0:0≤q) (h1:¬ q≥1000000) (hH:heapLow (H.length+1) H=true) (has:as.length≤1048576) (hE:∀ a∈as,Wo Ef m sc A c a)
  (hx:∀ h,doCall E (callR E) 63 [.agg m.c,.vs fs (flds sc),.agg [.int .i64 7,.int .i64 o,.str nm,.int .i64 x,.vs fl (exs as)]] h=some (encR (⟨tk,tn⟩,er),h)) (he:er=0) (ht:takesF m 7 nm=false) (w0:wordF nm=0) (s0:stF m nm<0) (b0:bltF nm=true) :
  doCall E (callR E) 95 [.ptr (0,0) 1 0 0,.agg m.c,.vs fs (flds sc),.agg [.int .i64 7,.int .i64 o,.str nm,.int .i64 x,.vs fl (exs as)]] (wH A q c H)=some (.tuple [],wH A (wL Ef m sc c (as) (X8 q (mxI 1 (compF m tk tn)))) c H):=by
 have hl:=m.hm
 have hw:=fun s=>Wf (k:=H.length+1) (A:=A) (s:=s) (c:=c)
 have qw:=fun h=>Xa nm h
 have qs:=fun h=>Yr m hm nm h
 have qb:=fun h=>blt_ok nm h
 have qf:=fun h=>Xj m hm nm h
 have qt:=fun h=>Yg m hm 7 o x nm fl as h
 have qc:=fun h=>Xh m hm tk tn h
 have hcb:=Yt m tk tn
 have ho:∀ k,[some (.mem [.agg [.int .i64 tk,.str tn]] 1 false 2),none,none,none,none].all (obLow k)=true:=fun k=>by simp [obLow,PV.lowL,PV.low]
 have ho4:∀ k,[some (.mem [.agg [.int .i64 tk,.str tn]] 1 false 2),none,none,none].all (obLow k)=true:=fun k=>by simp [obLow,PV.lowL,PV.low]
 have hadd:=fun n h3 h4=>X6 A q c n h0 (by omega) h3 h4 (H++[[some (.mem [.agg [.int .i64 tk,.str tn]] 1 false 2),none,none,none,none]]) (Wj hH ho)
 have hn:0≤mxI 1 (compF m tk tn)∧mxI 1 (compF m tk tn)≤1000:=by unfold mxI;split<;>omega
 have hadd:=hadd (mxI 1 (compF m tk tn)) hn.1 hn.2
 refine Z7 (pf:=p95) rfl rfl rfl rfl rfl (by simp [PV.lowL,PV.low]) ?_
 show kQ E _ (endM [] _ _ _) .norm { lvl:=H.length+1,tmps:=mk 168 [(0,.ptr (0,0) 1 0 0),(1,.agg m.c),(2,.vs fs (flds sc)),(3,.agg [.int .i64 7,.int .i64 o,.str nm,.int .i64 x,.vs fl (exs as)])],heap:=[wO A q c]::(H++[[none,none,none,none,none]]),defers:=[] }
 repeat' first|(with_reducible first|refine cS ?_ ?_|refine oS ?_ ?_|refine dS ?_ ?_)<;>intro _|((with_reducible refine kk ?_ ?_);·rfl)|simp -implicitDefEqProofs(disch:=first|omega|assumption)only[push_cast,simprocAttr,Zd,Zc,Ze,Zb,hl,hx,qw,qs,qb,qf,qt,qc,hadd,Yf,Wn,Xw,Wm,h1,he,ht,w0,s0,b0]|(with_reducible first|refine cB ?_ ?_|refine oB ?_ ?_|refine dB ?_ ?_)<;>intro _
 have hmo:=Yy (s:=q) (n:=mxI 1 (compF m tk tn)) (by omega) hn.1
 with_reducible refine We m sc (as) has (fs:=fs) (fl:=fl) Ef hEm A c hE H hH (o0:=some (.mem [.agg [.int .i64 tk,.str tn]] 1 false 2)) (o2:=none) (o3:=none) (o4:=none) ho4 (v10:=.int .i64 (-1)) (wL Ef m sc c (as) (X8 q (mxI 1 (compF m tk tn)))) ?_ (as) [] (X8 q (mxI 1 (compF m tk tn))) none _ rfl rfl (by omega) hmo.2 (fun _=>rfl) (by simp [look,Za,Fl.full, *]) (by simp [look,Za,Fl.full, *]) (by simp [look,Za,Fl.full, *]) (by simp [look,Za,Fl.full, *]) (by simp [look,Za,Fl.full, *]) (by simp [look,Za,Fl.full, *]) (by simp [look,Za,Fl.full, *])
 intro t q2 o1 e2 b1 b2 ho1 k0 k5 k10
 subst e2
 repeat' first|(with_reducible first|refine cS ?_ ?_|refine oS ?_ ?_|refine dS ?_ ?_)<;>intro _|((with_reducible refine kk ?_ ?_);·rfl)|simp -implicitDefEqProofs(disch:=first|omega|assumption)only[push_cast,simprocAttr,Zd,Zc,Ze,Zb,k0,k5,k10,hw,hH,Zm,Zn,allMarks,List.all_cons,List.all_nil]|(with_reducible first|refine cB ?_ ?_|refine oB ?_ ?_|refine dB ?_ ?_)<;>intro _
include hm hEm in
set_option maxHeartbeats 8000000 in
theorem we_bt (o x tk er:Int) (nm tn:Str) (fs fl:Fl) (as:List Ex) (q:Int) (H:Heap) (h0:0≤q) (h1:¬ q≥1000000) (hH:heapLow (H.length+1) H=true) (has:as.length≤1048576) (hE:∀ a∈as,Wo Ef m sc A c a)
  (hx:∀ h,doCall E (callR E) 63 [.agg m.c,.vs fs (flds sc),.agg [.int .i64 7,.int .i64 o,.str nm,.int .i64 x,.vs fl (exs as)]] h=some (encR (⟨tk,tn⟩,er),h)) (he:er=0) (ht:takesF m 7 nm=true) (hpos:1≤as.length) (w0:wordF nm=0) (s0:stF m nm<0) (b0:bltF nm=true) :
  doCall E (callR E) 95 [.ptr (0,0) 1 0 0,.agg m.c,.vs fs (flds sc),.agg [.int .i64 7,.int .i64 o,.str nm,.int .i64 x,.vs fl (exs as)]] (wH A q c H)=some (.tuple [],wH A (wL Ef m sc c (as.drop 1) (X8 q (mxI 1 (compF m tk tn)))) c H):=by
 have hl:=m.hm
 have hw:=fun s=>Wf (k:=H.length+1) (A:=A) (s:=s) (c:=c)
 have qw:=fun h=>Xa nm h
 have qs:=fun h=>Yr m hm nm h
 have qb:=fun h=>blt_ok nm h
 have qf:=fun h=>Xj m hm nm h
 have qt:=fun h=>Yg m hm 7 o x nm fl as h
 have qc:=fun h=>Xh m hm tk tn h
 have hcb:=Yt m tk tn
 have ho:∀ k,[some (.mem [.agg [.int .i64 tk,.str tn]] 1 false 2),none,none,none,none].all (obLow k)=true:=fun k=>by simp [obLow,PV.lowL,PV.low]
 have ho4:∀ k,[some (.mem [.agg [.int .i64 tk,.str tn]] 1 false 2),none,none,none].all (obLow k)=true:=fun k=>by simp [obLow,PV.lowL,PV.low]
 have hadd:=fun n h3 h4=>X6 A q c n h0 (by omega) h3 h4 (H++[[some (.mem [.agg [.int .i64 tk,.str tn]] 1 false 2),none,none,none,none]]) (Wj hH ho)
 have hn:0≤mxI 1 (compF m tk tn)∧mxI 1 (compF m tk tn)≤1000:=by unfold mxI;split<;>omega
 have hadd:=hadd (mxI 1 (compF m tk tn)) hn.1 hn.2
 have hb1:bound (.int .i64 1) as.length=some 1:=by simp [bound];omega
 refine Z7 (pf:=p95) rfl rfl rfl rfl rfl (by simp [PV.lowL,PV.low]) ?_
 show kQ E _ (endM [] _ _ _) .norm { lvl:=H.length+1,tmps:=mk 168 [(0,.ptr (0,0) 1 0 0),(1,.agg m.c),(2,.vs fs (flds sc)),(3,.agg [.int .i64 7,.int .i64 o,.str nm,.int .i64 x,.vs fl (exs as)])],heap:=[wO A q c]::(H++[[none,none,none,none,none]]),defers:=[] }
 repeat' first|(with_reducible first|refine cS ?_ ?_|refine oS ?_ ?_|refine dS ?_ ?_)<;>intro _|((with_reducible refine kk ?_ ?_);·rfl)|simp -implicitDefEqProofs(disch:=first|omega|assumption)only[push_cast,simprocAttr,Zd,Zc,Ze,Zb,hl,hx,qw,qs,qb,qf,qt,qc,hadd,Yf,Wn,Xw,Wm,h1,he,ht,boundsE,hb1,Option.isSome_none,Option.isNone_none,w0,s0,b0]|(with_reducible first|refine cB ?_ ?_|refine oB ?_ ?_|refine dB ?_ ?_)<;>intro _
 have hmo:=Yy (s:=q) (n:=mxI 1 (compF m tk tn)) (by omega) hn.1
 with_reducible refine We m sc (as.drop 1) (by simp;omega) (fs:=fs) (fl:=if fl=.nil then .nil else if fl.full&&Nat.beq as.length as.length then .clip else .any) Ef hEm A c (fun a ha=>hE a (List.mem_of_mem_drop ha)) H hH (o0:=some (.mem [.agg [.int .i64 tk,.str tn]] 1 false 2)) (o2:=none) (o3:=none) (o4:=none) ho4 (v10:=.int .i64 (-1)) (wL Ef m sc c (as.drop 1) (X8 q (mxI 1 (compF m tk tn)))) ?_ (as.drop 1) [] (X8 q (mxI 1 (compF m tk tn))) none _ rfl rfl (by omega) hmo.2 (fun _=>rfl) (by simp [look,Za,Fl.full, *]) (by simp [look,Za,Fl.full, *]) (by simp [look,Za,Fl.full, *]) (by simp [look,Za,Fl.full, *]) (by simp [look,Za,Fl.full, *]) (by simp [look,Za,Fl.full, *]) (by simp [look,Za,Fl.full, *])
 intro t q2 o1 e2 b1 b2 ho1 k0 k5 k10
 subst e2
 repeat' first|(with_reducible first|refine cS ?_ ?_|refine oS ?_ ?_|refine dS ?_ ?_)<;>intro _|((with_reducible refine kk ?_ ?_);·rfl)|simp -implicitDefEqProofs(disch:=first|omega|assumption)only[push_cast,simprocAttr,Zd,Zc,Ze,Zb,k0,k5,k10,hw,hH,Zm,Zn,allMarks,List.all_cons,List.all_nil]|(with_reducible first|refine cB ?_ ?_|refine oB ?_ ?_|refine dB ?_ ?_)<;>intro _
include hm hEm in
set_option maxHeartbeats 8000000 in
theorem we_nf (o x tk er:Int) (nm tn:Str) (fs fl:Fl) (as:List Ex) (q:Int) (H:Heap) (h0:0≤q) (h1:¬ q≥1000000) (hH:heapLow (H.length+1) H=true) (has:as.length≤1048576) (hE:∀ a∈as,Wo Ef m sc A c a)
  (hx:∀ h,doCall E (callR E) 63 [.agg m.c,.vs fs (flds sc),.agg [.int .i64 7,.int .i64 o,.str nm,.int .i64 x,.vs fl (exs as)]] h=some (encR (⟨tk,tn⟩,er),h)) (he:er=0) (ht:takesF m 7 nm=false) (w0:wordF nm=0) (s0:stF m nm<0) (b0:bltF nm=false) (hat:fnF m nm<0) (hat2:¬ fnF m nm≥0) :
  doCall E (callR E) 95 [.ptr (0,0) 1 0 0,.agg m.c,.vs fs (flds sc),.agg [.int .i64 7,.int .i64 o,.str nm,.int .i64 x,.vs fl (exs as)]] (wH A q c H)=some (.tuple [],wH A (wL Ef m sc c (as) (X8 q (mxI 1 (compF m tk tn)))) c H):=by
 have hl:=m.hm
 have hw:=fun s=>Wf (k:=H.length+1) (A:=A) (s:=s) (c:=c)
 have qw:=fun h=>Xa nm h
 have qs:=fun h=>Yr m hm nm h
 have qb:=fun h=>blt_ok nm h
 have qf:=fun h=>Xj m hm nm h
 have qt:=fun h=>Yg m hm 7 o x nm fl as h
 have qc:=fun h=>Xh m hm tk tn h
 have hcb:=Yt m tk tn
 have ho:∀ k,[some (.mem [.agg [.int .i64 tk,.str tn]] 1 false 2),none,none,none,none].all (obLow k)=true:=fun k=>by simp [obLow,PV.lowL,PV.low]
 have ho4:∀ k,[some (.mem [.agg [.int .i64 tk,.str tn]] 1 false 2),none,none,none].all (obLow k)=true:=fun k=>by simp [obLow,PV.lowL,PV.low]
 have hadd:=fun n h3 h4=>X6 A q c n h0 (by omega) h3 h4 (H++[[some (.mem [.agg [.int .i64 tk,.str tn]] 1 false 2),none,none,none,none]]) (Wj hH ho)
 have hn:0≤mxI 1 (compF m tk tn)∧mxI 1 (compF m tk tn)≤1000:=by unfold mxI;split<;>omega
 have hadd:=hadd (mxI 1 (compF m tk tn)) hn.1 hn.2
 refine Z7 (pf:=p95) rfl rfl rfl rfl rfl (by simp [PV.lowL,PV.low]) ?_
 show kQ E _ (endM [] _ _ _) .norm { lvl:=H.length+1,tmps:=mk 168 [(0,.ptr (0,0) 1 0 0),(1,.agg m.c),(2,.vs fs (flds sc)),(3,.agg [.int .i64 7,.int .i64 o,.str nm,.int .i64 x,.vs fl (exs as)])],heap:=[wO A q c]::(H++[[none,none,none,none,none]]),defers:=[] }
 repeat' first|(with_reducible first|refine cS ?_ ?_|refine oS ?_ ?_|refine dS ?_ ?_)<;>intro _|((with_reducible refine kk ?_ ?_);·rfl)|simp -implicitDefEqProofs(disch:=first|omega|assumption)only[push_cast,simprocAttr,Zd,Zc,Ze,Zb,hl,hx,qw,qs,qb,qf,qt,qc,hadd,Yf,Wn,Xw,Wm,h1,he,ht,w0,s0,b0,hat,hat2]|(with_reducible first|refine cB ?_ ?_|refine oB ?_ ?_|refine dB ?_ ?_)<;>intro _
 have hmo:=Yy (s:=q) (n:=mxI 1 (compF m tk tn)) (by omega) hn.1
 with_reducible refine We m sc (as) has (fs:=fs) (fl:=fl) Ef hEm A c hE H hH (o0:=some (.mem [.agg [.int .i64 tk,.str tn]] 1 false 2)) (o2:=none) (o3:=none) (o4:=none) ho4 (v10:=.int .i64 (fnF m nm)) (wL Ef m sc c (as) (X8 q (mxI 1 (compF m tk tn)))) ?_ (as) [] (X8 q (mxI 1 (compF m tk tn))) none _ rfl rfl (by omega) hmo.2 (fun _=>rfl) (by simp [look,Za,Fl.full, *]) (by simp [look,Za,Fl.full, *]) (by simp [look,Za,Fl.full, *]) (by simp [look,Za,Fl.full, *]) (by simp [look,Za,Fl.full, *]) (by simp [look,Za,Fl.full, *]) (by simp [look,Za,Fl.full, *])
 intro t q2 o1 e2 b1 b2 ho1 k0 k5 k10
 subst e2
 repeat' first|(with_reducible first|refine cS ?_ ?_|refine oS ?_ ?_|refine dS ?_ ?_)<;>intro _|((with_reducible refine kk ?_ ?_);·rfl)|simp -implicitDefEqProofs(disch:=first|omega|assumption)only[push_cast,simprocAttr,Zd,Zc,Ze,Zb,k0,k5,k10,hw,hH,Zm,Zn,allMarks,List.all_cons,List.all_nil,hat]|(with_reducible first|refine cB ?_ ?_|refine oB ?_ ?_|refine dB ?_ ?_)<;>intro _
include hm hEm in
set_option maxHeartbeats 8000000 in
theorem we_c (o x tk er:Int) (nm tn:Str) (fs fl:Fl) (as:List Ex) (q:Int) (H:Heap) (h0:0≤q) (h1:¬ q≥1000000) (hH:heapLow (H.length+1) H=true) (has:as.length≤1048576) (hE:∀ a∈as,Wo Ef m sc A c a)
  (hx:∀ h,doCall E (callR E) 63 [.agg m.c,.vs fs (flds sc),.agg [.int .i64 7,.int .i64 o,.str nm,.int .i64 x,.vs fl (exs as)]] h=some (encR (⟨tk,tn⟩,er),h)) (he:er=0) (ht:takesF m 7 nm=false) (w0:wordF nm=0) (s0:stF m nm<0) (b0:bltF nm=false) (i:Nat) (hat:fnF m nm=i) (hca:c>A) :
  doCall E (callR E) 95 [.ptr (0,0) 1 0 0,.agg m.c,.vs fs (flds sc),.agg [.int .i64 7,.int .i64 o,.str nm,.int .i64 x,.vs fl (exs as)]] (wH A q c H)=some (.tuple [],wH A (X8 q 1) c H):=by
 have hl:=m.hm
 have hw:=fun s=>Wf (k:=H.length+1) (A:=A) (s:=s) (c:=c)
 have qw:=fun h=>Xa nm h
 have qs:=fun h=>Yr m hm nm h
 have qb:=fun h=>blt_ok nm h
 have qf:=fun h=>Xj m hm nm h
 have qt:=fun h=>Yg m hm 7 o x nm fl as h
 have qc:=fun h=>Xh m hm tk tn h
 have hcb:=Yt m tk tn
 have ho:∀ k,[some (.mem [.agg [.int .i64 tk,.str tn]] 1 false 2),none,none,none,none].all (obLow k)=true:=fun k=>by simp [obLow,PV.lowL,PV.low]
 have ho4:∀ k,[some (.mem [.agg [.int .i64 tk,.str tn]] 1 false 2),none,none,none].all (obLow k)=true:=fun k=>by simp [obLow,PV.lowL,PV.low]
 have hadd:=fun n h3 h4=>X6 A q c n h0 (by omega) h3 h4 (H++[[some (.mem [.agg [.int .i64 tk,.str tn]] 1 false 2),none,none,none,none]]) (Wj hH ho)
 have hadd:=hadd 1 (by omega) (by omega)
 have i0:(i:Int)≥0:=by omega
 refine Z7 (pf:=p95) rfl rfl rfl rfl rfl (by simp [PV.lowL,PV.low]) ?_
 show kQ E _ (endM [] _ _ _) .norm { lvl:=H.length+1,tmps:=mk 168 [(0,.ptr (0,0) 1 0 0),(1,.agg m.c),(2,.vs fs (flds sc)),(3,.agg [.int .i64 7,.int .i64 o,.str nm,.int .i64 x,.vs fl (exs as)])],heap:=[wO A q c]::(H++[[none,none,none,none,none]]),defers:=[] }
 repeat' first|(with_reducible first|refine cS ?_ ?_|refine oS ?_ ?_|refine dS ?_ ?_)<;>intro _|((with_reducible refine kk ?_ ?_);·rfl)|simp -implicitDefEqProofs(disch:=first|omega|assumption)only[push_cast,simprocAttr,Zd,Zc,Ze,Zb,hl,hx,qw,qs,qb,qf,qt,qc,hadd,Yf,Wn,Xw,Wm,h1,he,w0,s0,b0,hat,i0,hca,hw,hH,Zm,Zn,allMarks,List.all_cons,List.all_nil]|(with_reducible first|refine cB ?_ ?_|refine oB ?_ ?_|refine dB ?_ ?_)<;>intro _
include hm hEm in
set_option maxHeartbeats 8000000 in
theorem we_f (o x tk er:Int) (nm tn:Str) (fs fl:Fl) (as:List Ex) (q:Int) (H:Heap) (h0:0≤q) (h1:¬ q≥1000000) (hH:heapLow (H.length+1) H=true) (has:as.length≤1048576) (hE:∀ a∈as,Wo Ef m sc A c a)
  (hx:∀ h,doCall E (callR E) 63 [.agg m.c,.vs fs (flds sc),.agg [.int .i64 7,.int .i64 o,.str nm,.int .i64 x,.vs fl (exs as)]] h=some (encR (⟨tk,tn⟩,er),h)) (he:er=0) (ht:takesF m 7 nm=false) (w0:wordF nm=0) (s0:stF m nm<0) (b0:bltF nm=false) (i:Nat) (hat:fnF m nm=i) (hca:¬ c>A) (f:Fun') (hfi:m.fs[i]?=some f) (hfp:f.ps.length≤1048576) (hc0:0≤c) (hc1:c≤4194304)
  (hBm:W2 Bf) (hB:Ub Bf (m.win i) f.ps A (c+1) f.bodyS) (hR:∀ q,Wo Ef (m.win i) (Bf (m.win i) f.ps f.bodyS q (c+1)).2 A (c+1) f.retE) :
  doCall E (callR E) 95 [.ptr (0,0) 1 0 0,.agg m.c,.vs fs (flds sc),.agg [.int .i64 7,.int .i64 o,.str nm,.int .i64 x,.vs fl (exs as)]] (wH A q c H)=some (.tuple [],wH A (wF Ef Bf m i (wL Ef m sc c as (X8 q (mxI 1 (compF m tk tn)))) c) c H):=by
 have hl:=m.hm
 have hw:=fun s=>Wf (k:=H.length+1) (A:=A) (s:=s) (c:=c)
 have qw:=fun h=>Xa nm h
 have qs:=fun h=>Yr m hm nm h
 have qb:=fun h=>blt_ok nm h
 have qf:=fun h=>Xj m hm nm h
 have qt:=fun h=>Yg m hm 7 o x nm fl as h
 have qc:=fun h=>Xh m hm tk tn h
 have hcb:=Yt m tk tn
 have ho:∀ k,[some (.mem [.agg [.int .i64 tk,.str tn]] 1 false 2),none,none,none,none].all (obLow k)=true:=fun k=>by simp [obLow,PV.lowL,PV.low]
 have ho4:∀ k,[some (.mem [.agg [.int .i64 tk,.str tn]] 1 false 2),none,none,none].all (obLow k)=true:=fun k=>by simp [obLow,PV.lowL,PV.low]
 have hadd:=fun n h3 h4=>X6 A q c n h0 (by omega) h3 h4 (H++[[some (.mem [.agg [.int .i64 tk,.str tn]] 1 false 2),none,none,none,none]]) (Wj hH ho)
 have hn:0≤mxI 1 (compF m tk tn)∧mxI 1 (compF m tk tn)≤1000:=by unfold mxI;split<;>omega
 have hadd:=hadd (mxI 1 (compF m tk tn)) hn.1 hn.2
 have i0:(i:Int)≥0:=by omega
 have i1:¬ (i:Int)<0:=by omega
 have hlt:i<m.fs.length:=by
  rcases Nat.lt_or_ge i m.fs.length with h|h
  ·exact h
  ·rw [List.getElem?_eq_none h] at hfi;cases hfi
 have hg:(funs m.fs)[i]?=some (.agg (c10 f)):=by rw [funs,List.getElem?_map,hfi,Option.map_some,f.v10]
 have hit:(i:Int).toNat=i:=Int.toNat_natCast i
 have qn:=fun h=>win_ok m i (by omega) h
 have hwl:=(m.win i).hm
 have e1:c+1 - 1=c:=by omega
 refine Z7 (pf:=p95) rfl rfl rfl rfl rfl (by simp [PV.lowL,PV.low]) ?_
 show kQ E _ (endM [] _ _ _) .norm { lvl:=H.length+1,tmps:=mk 168 [(0,.ptr (0,0) 1 0 0),(1,.agg m.c),(2,.vs fs (flds sc)),(3,.agg [.int .i64 7,.int .i64 o,.str nm,.int .i64 x,.vs fl (exs as)])],heap:=[wO A q c]::(H++[[none,none,none,none,none]]),defers:=[] }
 repeat' first|(with_reducible first|refine cS ?_ ?_|refine oS ?_ ?_|refine dS ?_ ?_)<;>intro _|((with_reducible refine kk ?_ ?_);·rfl)|simp -implicitDefEqProofs(disch:=first|omega|assumption)only[push_cast,simprocAttr,Zd,Zc,Ze,Zb,hl,hx,qw,qs,qb,qf,qt,qc,hadd,Yf,Wn,Xw,Wm,h1,he,w0,s0,b0,hat,i0,hca,ht]|(with_reducible first|refine cB ?_ ?_|refine oB ?_ ?_|refine dB ?_ ?_)<;>intro _
 have hmo:=Yy (s:=q) (n:=mxI 1 (compF m tk tn)) (by omega) hn.1
 with_reducible refine We m sc (as) has (fs:=fs) (fl:=fl) Ef hEm A c hE H hH (o0:=some (.mem [.agg [.int .i64 tk,.str tn]] 1 false 2)) (o2:=none) (o3:=none) (o4:=none) ho4 (v10:=.int .i64 (i)) (wL Ef m sc c (as) (X8 q (mxI 1 (compF m tk tn)))) ?_ (as) [] (X8 q (mxI 1 (compF m tk tn))) none _ rfl rfl (by omega) hmo.2 (fun _=>rfl) (by simp [look,Za,Fl.full, *]) (by simp [look,Za,Fl.full, *]) (by simp [look,Za,Fl.full, *]) (by simp [look,Za,Fl.full, *]) (by simp [look,Za,Fl.full, *]) (by simp [look,Za,Fl.full, *]) (by simp [look,Za,Fl.full, *])
 intro t q2 o1 e2 b1 b2 ho1 k0 k5 k10
 subst e2
 obtain ⟨Q2,hQ2⟩:∃ Q2,Q2=wL Ef m sc c as (X8 q (mxI 1 (compF m tk tn))):=⟨_,rfl⟩
 rw [← hQ2] at b1 b2 ⊢
 have hLo:∀ k,[some (.mem [.agg [.int .i64 tk,.str tn]] 1 false 2),o1,some (.mem [.agg (c10 f)] 1 false 10),some (.mem [.agg (m.win i).c] 1 false 9)].all (obLow k)=true:=fun k=>by
  have h1:=ho1 k
  have h2:=PV.lowL_k (k:=k) _ hwl
  simp only [List.all_cons,List.all_nil,h1,Bool.and_true,Bool.true_and]
  simp [obLow,PV.lowL,PV.low,h2]
 have hLo5:∀ k,[some (.mem [.agg [.int .i64 tk,.str tn]] 1 false 2),o1,some (.mem [.agg (c10 f)] 1 false 10),some (.mem [.agg (m.win i).c] 1 false 9),none].all (obLow k)=true:=fun k=>by
  have h1:=ho1 k
  have h2:=PV.lowL_k (k:=k) _ hwl
  simp only [List.all_cons,List.all_nil,h1,Bool.and_true,Bool.true_and]
  simp [obLow,PV.lowL,PV.low,h2]
 obtain ⟨fl',hq47⟩:=hB .any f.fb Q2 (H++[[some (.mem [.agg [.int .i64 tk,.str tn]] 1 false 2),o1,some (.mem [.agg (c10 f)] 1 false 10),some (.mem [.agg (m.win i).c] 1 false 9),none]]) b1 b2 (Wj hH hLo5)
 have m1:=hBm (m.win i) f.ps f.bodyS Q2 (c+1) b2
 have hq98:=hR Q2 fl' _ (H++[[some (.mem [.agg [.int .i64 tk,.str tn]] 1 false 2),o1,some (.mem [.agg (c10 f)] 1 false 10),some (.mem [.agg (m.win i).c] 1 false 9),none]]) (by omega) m1.2 (Wj hH hLo5)
 have m2:=hEm (m.win i) (Bf (m.win i) f.ps f.bodyS Q2 (c+1)).2 f.retE _ (c+1) m1.2
 rw [f.retE.c_eq] at hq98
 repeat' first|(with_reducible first|refine cS ?_ ?_|refine oS ?_ ?_|refine dS ?_ ?_)<;>intro _|((with_reducible refine kk ?_ ?_);·rfl)|simp -implicitDefEqProofs(disch:=first|omega|assumption)only[push_cast,simprocAttr,Zd,Zc,Ze,Zb,k0,k5,k10,i1,hl,hit,hg,hwl,qn,hq47,hq98,e1,Th,Tg,Vk,W4,Xr,Xs,Vb,Y5,hfp,Yv,Yq,Yp,Yo,Yh,Yx,Yi,stabG,stabS,Z1,Yb,Z0,Zt,Zy,Z9,Ya,Zz,Zu,Zp]|(with_reducible first|refine cB ?_ ?_|refine oB ?_ ?_|refine dB ?_ ?_)<;>intro _|with_reducible first|refine Z2 ?_ ?_|refine Z3 (by decide) ?_|refine Z4 (by decide) ?_ ?_|exact Z5|refine Zx ?_|refine Zq ?_
 with_reducible refine U6 m hm f.ps hfp (f:=f.fl) A c H hH (o0:=some (.mem [.agg [.int .i64 tk,.str tn]] 1 false 2)) (o1:=o1) (o2:=some (.mem [.agg (c10 f)] 1 false 10)) (o3:=some (.mem [.agg (m.win i).c] 1 false 9)) hLo (wF Ef Bf m i Q2 c) ?_ f.ps [] (Ef (m.win i) (Bf (m.win i) f.ps f.bodyS Q2 (c+1)).2 f.retE (Bf (m.win i) f.ps f.bodyS Q2 (c+1)).1 (c+1)) none _ rfl (by rw [wF,if_neg i1,hit,hfi]) (by omega) m2.2 (by simp [look,Za, *]) (by simp [look,Za, *]) (by simp [look,Za, *]) (by simp [look,Za, *]) (by simp [look,Za, *])
 intro t' q4 o4 e4
 subst e4
 repeat' first|(with_reducible first|refine cS ?_ ?_|refine oS ?_ ?_|refine dS ?_ ?_)<;>intro _|((with_reducible refine kk ?_ ?_);·rfl)|simp -implicitDefEqProofs(disch:=first|omega|assumption)only[push_cast,simprocAttr,Zd,Zc,Ze,Zb,hw,hH,Zm,Zn,allMarks,List.all_cons,List.all_nil]|(with_reducible first|refine cB ?_ ?_|refine oB ?_ ?_|refine dB ?_ ?_)<;>intro _
end
end
section
theorem Tu {l:List Fld}:(flds l).take l.length=flds l:=List.take_of_length_le (by rw [flds_len];exact Nat.le_refl _)
theorem Ux (fs:Fl) (sc:List Fld) (h:Heap):doCall E (callR E) 96 [.vs fs (flds sc)] h=some (.vs (if fs=.nil then .nil else .clip) (flds sc),h):=by
 have hb:bound (.int .i64 sc.length) sc.length=some sc.length:=by simp [bound]
 refine Zg (pf:=p96) rfl rfl rfl rfl (by simp [PV.lowL,PV.low]) (by simp [PV.low,PV.lowL]) ?_ h
 show kQ E _ (endQ [⟨2,none⟩] _) .norm { lvl:=0,tmps:=mk 9 [(0,.vs fs (flds sc))],heap:=[[]],defers:=[] }
 repeat' first|(with_reducible first|refine cS ?_ ?_|refine oS ?_ ?_|refine dS ?_ ?_)<;>intro _|((with_reducible refine kk ?_ ?_);·rfl)|simp -implicitDefEqProofs(disch:=first|omega|assumption)only[push_cast,simprocAttr,Zd,Zc,Ze,Zb,boundsE,hb,Y5,Tu,Option.isSome_some,Option.isNone_some]|(with_reducible first|refine cB ?_ ?_|refine oB ?_ ?_|refine dB ?_ ?_)<;>intro _
theorem Vv {fs:Fl}:(if fs=.nil then Fl.nil else Fl.clip).full=true:=by split<;>rfl
set_option maxHeartbeats 16000000 in
theorem U9 (m:Mod) (hm:m.Ok) (l:List St) (hll:l.length≤1048576) {f:Fl} (A c:Int) (Ef:EF) (Bf:BF) (hEm:Ww Ef) (hBm:W2 Bf) (hsz:∀ s∈l,s.sz≤1048576) (hE:∀ s∈l,∀ sc:List Fld,sc.length≤1048576→Wo Ef m sc A c s.value∧Wo Ef m sc A c s.target) (hB:∀ s∈l,∀ sc:List Fld,sc.length+s.sz≤1048576→Ub Bf m sc A c s.body∧Ub Bf m sc A c s.els) (H:Heap) (hH:heapLow (H.length+1) H=true) (fin:Int × List Fld) {ks:List KI} {Q:PEx→Fr→Prop}
  (hn:∀ t (q:Int) (sc:List Fld) (fs:Fl) (o0 o1:Option Ob),fin=(q,sc)→look t 2=.vs fs (flds sc)→kQ E ks Q .norm { lvl:=H.length+1,tmps:=mk 106 t,heap:=wH A q c (H++[[o0,o1]]),defers:=[] }) :
  ∀ (rest pre:List St) (q:Int) (sc:List Fld) (fs:Fl) (o0 o1:Option Ob) (t:List (Nat × PV)),l=pre++rest→(wB' Ef Bf m c sc rest q=fin)→(0≤q)→(q≤1000000)→(sc.length+szS rest≤1048576)→(∀ k,[o0,o1].all (obLow k)=true) →
   look t 0=.ptr (0,0) 1 0 0→look t 2=.vs fs (flds sc)→look t 5=.ip m.c→look t 13=.vs f (sts l)→look t 14=.int .i64 l.length→look t 15=.int .i64 pre.length →
   kQ E (.code p64l0::.blk 0::ks) Q .norm { lvl:=H.length+1,tmps:=mk 106 t,heap:=wH A q c (H++[[o0,o1]]),defers:=[] }:=by
 intro rest
 have h1':=m.hm
 induction rest with
 | nil =>
  intro pre q sc fs o0 o1 t hl hi0 hi1 hi2 hi3 hi4 h0 h2 h5 h13 h14 h15
  have e:l.length=pre.length:=by rw [hl];simp
  refine loopK' (c:=p64l0) rfl ?_
  repeat' first|(with_reducible first|refine cS ?_ ?_|refine oS ?_ ?_|refine dS ?_ ?_)<;>intro _|((with_reducible refine kk ?_ ?_);·rfl)|simp -implicitDefEqProofs(disch:=first|omega|assumption)only[push_cast,simprocAttr,Zd,Zc,Ze,Zb,h0,h2,h5,h13,h14,h15,e,Xk]|(with_reducible first|refine cB ?_ ?_|refine oB ?_ ?_|refine dB ?_ ?_)<;>intro _
  exact hn _ _ _ fs _ _ (by rw [← hi0];rfl) (by simp [look,Za,h2])
 | cons s r ih =>
  intro pre q sc fs o0 o1 t hl hi0 hi1 hi2 hi3 hi4 h0 h2 h5 h13 h14 h15
  have e:l.length=pre.length+r.length+1:=by rw [hl];simp;omega
  have hg:(sts l)[pre.length]?=some (.agg [.int .i64 s.kind,.str s.name,.int .i64 s.ty.kind,.str s.ty.name,.int .i64 s.target.kind,.int .i64 s.target.op,.str s.target.name,.int .i64 s.target.value,.vs s.target.fl (exs s.target.args),.int .i64 s.value.kind,.int .i64 s.value.op,.str s.value.name,.int .i64 s.value.value,.vs s.value.fl (exs s.value.args),.int .i64 s.count,.vs s.fb (sts s.body),.vs s.fe (sts s.els)]):=by rw [hl,sts_map,← s.c17];exact Yd _ _ _ _
  have hsc:sc.length≤1048576:=by omega
  have hss:=hsz s (by rw [hl];simp)
  have hs2:=s.sz_eq
  simp only [szS] at hi3
  obtain ⟨g0,hg0⟩:∃ g0,nextGen (wH A q c (H++[[o0,o1]])) (H.length+1,0)=g0:=⟨_,rfl⟩
  obtain ⟨g1,hg1⟩:∃ g1,nextGen (wH A q c (H++[[o0,o1]])) (H.length+1,1)=g1:=⟨_,rfl⟩
  simp only [push_cast] at hg0 hg1
  have ho1:∀ k,obLow k o1=true:=fun k=>by have:=hi4 k;simp only [List.all_cons,List.all_nil,Bool.and_eq_true,Bool.and_true] at this;exact this.2
  have hc:∀ k,obLow k (some (.mem [.agg (c17 s)] g0 false 17))=true:=fun k=>by simp [obLow,PV.lowL,PV.low]
  have hP:∀ o,(∀ k,obLow k o=true)→heapLow ((H++[[some (.mem [.agg (c17 s)] g0 false 17),o]]).length+1) (H++[[some (.mem [.agg (c17 s)] g0 false 17),o]])=true:=fun o ho=>Wj hH fun k=>by simp only [List.all_cons,List.all_nil,hc,ho,Bool.and_true]
  have hx:=fun h=>exprtype_ok _ s.value (Nat.le_refl _) (by omega) m hm fs sc hsc h
  obtain ⟨tk,tn,er,het⟩:∃ tk tn er,exprF m sc s.value=(⟨tk,tn⟩,er):=⟨_,_,_,rfl⟩
  have hqc:=fun h=>Xh m hm tk tn h
  have hcb:=Yt m tk tn
  have hgo:¬ q≥1000000→wB' Ef Bf m c (Wk sc s) r (wS Ef Bf m sc s q c)=fin:=fun h=>by rw [← hi0,wB',if_neg h]
  have hsm:=Uj hEm hBm (m:=m) (sc:=sc) (st:=s) (c:=c) hi2
  have hadl:(Wk sc s).length+szS r≤1048576:=by
   have:(Wk sc s).length≤sc.length+1:=by unfold Wk;split<;>simp
   omega
  by_cases hq:q≥1000000
  ·refine loopK' (c:=p64l0) rfl ?_
   repeat' first|(with_reducible first|refine cS ?_ ?_|refine oS ?_ ?_|refine dS ?_ ?_)<;>intro _|((with_reducible refine kk ?_ ?_);·rfl)|simp -implicitDefEqProofs(disch:=first|omega|assumption)only[push_cast,simprocAttr,Zd,Zc,Ze,Zb,h0,h2,h5,h13,h14,h15,hg,hq]|(with_reducible first|refine cB ?_ ?_|refine oB ?_ ?_|refine dB ?_ ?_)<;>intro _
   exact hn _ _ _ fs _ _ (by rw [← hi0,wB',if_pos hq]) (by simp [look,Za,h2])
  by_cases k3:s.kind=3
  ·have y3:(s.kind=3)=True:=eq_true k3
   have k1:¬ s.kind=1:=by omega
   have k2:¬ s.kind=2:=by omega
   have qa:=X6 A q c 1 hi1 hi2 (by omega) (by omega) _ (hP o1 ho1)
   have b1:=Yy hi2 (n:=1) (by omega)
   have qe:=(hE s (by rw [hl];simp) sc hsc).1 fs (X8 q 1) _ (by omega) b1.2 (hP o1 ho1)
   have b2:=hEm m sc s.value (X8 q 1) c b1.2
   obtain ⟨f1,qb⟩:=(hB s (by rw [hl];simp) sc (by omega)).1 fs s.fb _ _ (by omega) b2.2 (hP o1 ho1)
   have b3:=hBm m sc s.body _ c b2.2
   obtain ⟨f2,qc⟩:=(hB s (by rw [hl];simp) sc (by omega)).2 fs s.fe _ _ (by omega) b3.2 (hP o1 ho1)
   rw [s.value.c_eq] at qe
   have hw:wS Ef Bf m sc s q c=(Bf m sc s.els (Bf m sc s.body (Ef m sc s.value (X8 q 1) c) c).1 c).1:=by rw [wS,if_neg (by omega),if_pos k3]
   refine loopK' (c:=p64l0) rfl ?_
   repeat' first|(with_reducible first|refine cS ?_ ?_|refine oS ?_ ?_|refine dS ?_ ?_)<;>intro _|((with_reducible refine kk ?_ ?_);·rfl)|simp -implicitDefEqProofs(disch:=first|omega|assumption)only[push_cast,simprocAttr,Zd,Zc,Ze,Zb,h0,h2,h5,h13,h14,h15,hg,h1',hq,hg0,k1,k2,y3,qa,qe,qb,qc]|(with_reducible first|refine cB ?_ ?_|refine oB ?_ ?_|refine dB ?_ ?_)<;>intro _
   rw [← hw]
   refine ih (pre++[s]) (wS Ef Bf m sc s q c) sc fs _ _ _ (by simp [hl]) (by rw [← hgo hq,Wk,if_neg k1]) (by omega) hsm.2 (by omega) (by intro k;simp only [List.all_cons,List.all_nil,hc,ho1,Bool.and_true]) (by simp [look,Za,h0]) (by simp [look,Za,h2]) (by simp [look,Za,h5]) (by simp [look,Za,h13]) (by simp [look,Za,h14]) (by simp [look,Za,h15])
  by_cases k12:s.kind=1∨s.kind=2
  ·have hT:∀ k,obLow k (some (.mem [.agg [.int .i64 tk,.str tn]] g1 false 2))=true:=fun k=>by simp [obLow,PV.lowL,PV.low]
   rw [het,s.value.c_eq] at hx
   by_cases k2:s.kind=2
   ·have y:(s.kind=2)=True:=eq_true k2
    have k1:¬ s.kind=1:=by omega
    by_cases he:er=0
    ·subst he
     have he:(0:Int)=0:=rfl
     have b1:q≤(X8 q (compF m tk tn))∧(X8 q (compF m tk tn))≤1000000:=Yy hi2 hcb.1
     have qe:=(hE s (by rw [hl];simp) sc hsc).1 fs (X8 q (compF m tk tn)) _ (by omega) b1.2 (hP _ hT)
     have b2:=hEm m sc s.value (X8 q (compF m tk tn)) c b1.2
     rw [s.value.c_eq] at qe
     have qa:=X6 A q c (compF m tk tn) hi1 hi2 hcb.1 hcb.2 _ (hP _ hT)
     have qg:=(hE s (by rw [hl];simp) sc hsc).2 fs _ _ (by omega) b2.2 (hP _ hT)
     rw [s.target.c_eq] at qg
     have hw:wS Ef Bf m sc s q c=Ef m sc s.target (Ef m sc s.value (X8 q (compF m tk tn)) c) c:=by rw [wS,if_pos k12,if_pos k2,het];simp [he]
     refine loopK' (c:=p64l0) rfl ?_
     repeat' first|(with_reducible first|refine cS ?_ ?_|refine oS ?_ ?_|refine dS ?_ ?_)<;>intro _|((with_reducible refine kk ?_ ?_);·rfl)|simp -implicitDefEqProofs(disch:=first|omega|assumption)only[push_cast,simprocAttr,Zd,Zc,Ze,Zb,h0,h2,h5,h13,h14,h15,hg,h1',hq,hg0,hg1,y,k1,k3,hx,he,hqc,qa,qe,qg,stabG,stabS,Z1,Yb,Z0,Zt,Zy,Z9,Ya,Zz,Zu,Zp]|(with_reducible first|refine cB ?_ ?_|refine oB ?_ ?_|refine dB ?_ ?_)<;>intro _|with_reducible first|refine Z2 ?_ ?_|refine Z3 (by decide) ?_|refine Z4 (by decide) ?_ ?_|exact Z5|refine Zx ?_|refine Zq ?_
     rw [← hw]
     refine ih (pre++[s]) (wS Ef Bf m sc s q c) sc fs _ _ _ (by simp [hl]) (by rw [← hgo hq,Wk,if_neg k1]) (by omega) hsm.2 (by omega) (by intro k;simp only [List.all_cons,List.all_nil,hc,hT,Bool.and_true]) (by simp [look,Za,h0]) (by simp [look,Za,h2]) (by simp [look,Za,h5]) (by simp [look,Za,h13]) (by simp [look,Za,h14]) (by simp [look,Za,h15])
    ·
     have b1:q≤q∧q≤1000000:=⟨Int.le_refl _,hi2⟩
     have qe:=(hE s (by rw [hl];simp) sc hsc).1 fs q _ (by omega) b1.2 (hP _ hT)
     have b2:=hEm m sc s.value q c b1.2
     rw [s.value.c_eq] at qe
     have qg:=(hE s (by rw [hl];simp) sc hsc).2 fs _ _ (by omega) b2.2 (hP _ hT)
     rw [s.target.c_eq] at qg
     have hw:wS Ef Bf m sc s q c=Ef m sc s.target (Ef m sc s.value q c) c:=by rw [wS,if_pos k12,if_pos k2,het];simp [he]
     refine loopK' (c:=p64l0) rfl ?_
     repeat' first|(with_reducible first|refine cS ?_ ?_|refine oS ?_ ?_|refine dS ?_ ?_)<;>intro _|((with_reducible refine kk ?_ ?_);·rfl)|simp -implicitDefEqProofs(disch:=first|omega|assumption)only[push_cast,simprocAttr,Zd,Zc,Ze,Zb,h0,h2,h5,h13,h14,h15,hg,h1',hq,hg0,hg1,y,k1,k3,hx,he,hqc,qe,qg,stabG,stabS,Z1,Yb,Z0,Zt,Zy,Z9,Ya,Zz,Zu,Zp]|(with_reducible first|refine cB ?_ ?_|refine oB ?_ ?_|refine dB ?_ ?_)<;>intro _|with_reducible first|refine Z2 ?_ ?_|refine Z3 (by decide) ?_|refine Z4 (by decide) ?_ ?_|exact Z5|refine Zx ?_|refine Zq ?_
     rw [← hw]
     refine ih (pre++[s]) (wS Ef Bf m sc s q c) sc fs _ _ _ (by simp [hl]) (by rw [← hgo hq,Wk,if_neg k1]) (by omega) hsm.2 (by omega) (by intro k;simp only [List.all_cons,List.all_nil,hc,hT,Bool.and_true]) (by simp [look,Za,h0]) (by simp [look,Za,h2]) (by simp [look,Za,h5]) (by simp [look,Za,h13]) (by simp [look,Za,h14]) (by simp [look,Za,h15])
   ·have k1:s.kind=1:=k12.resolve_right k2
    have y:(s.kind=1)=True:=eq_true k1
    by_cases he:er=0
    ·subst he
     have he:(0:Int)=0:=rfl
     have b1:q≤(X8 q (compF m tk tn))∧(X8 q (compF m tk tn))≤1000000:=Yy hi2 hcb.1
     have qe:=(hE s (by rw [hl];simp) sc hsc).1 fs (X8 q (compF m tk tn)) _ (by omega) b1.2 (hP _ hT)
     have b2:=hEm m sc s.value (X8 q (compF m tk tn)) c b1.2
     rw [s.value.c_eq] at qe
     have qa:=X6 A q c (compF m tk tn) hi1 hi2 hcb.1 hcb.2 _ (hP _ hT)
     have hw:wS Ef Bf m sc s q c=Ef m sc s.value (X8 q (compF m tk tn)) c:=by rw [wS,if_pos k12,if_neg k2,het];simp [he]
     have fld1:[PV.agg [.str s.name,.int .i64 s.ty.kind,.str s.ty.name]]=flds [⟨s.name,s.ty⟩]:=rfl
     have qk:=fun h=>Ux fs sc h
     have hcf:=Vv (fs:=fs)
     simp only [Fl.full] at hcf
     have hz1:(sc.length+1)*40≤140737488355328:=by omega
     have hz2:sc.length≤140737488355327:=by omega
     refine loopK' (c:=p64l0) rfl ?_
     repeat' first|(with_reducible first|refine cS ?_ ?_|refine oS ?_ ?_|refine dS ?_ ?_)<;>intro _|((with_reducible refine kk ?_ ?_);·rfl)|simp -implicitDefEqProofs(disch:=first|omega|assumption)only[push_cast,simprocAttr,Zd,Zc,Ze,Zb,h0,h2,h5,h13,h14,h15,hg,h1',hq,hg0,hg1,y,k3,hx,he,hqc,qa,qe,k2,qk,hcf,hz1,hz2,fld1,Xy,Y5,stabG,stabS,Z1,Yb,Z0,Zt,Zy,Z9,Ya,Zz,Zu,Zp]|(with_reducible first|refine cB ?_ ?_|refine oB ?_ ?_|refine dB ?_ ?_)<;>intro _|with_reducible first|refine Z2 ?_ ?_|refine Z3 (by decide) ?_|refine Z4 (by decide) ?_ ?_|exact Z5|refine Zx ?_|refine Zq ?_
     rw [← hw]
     refine ih (pre++[s]) (wS Ef Bf m sc s q c) (sc++[⟨s.name,s.ty⟩]) .any _ _ _ (by simp [hl]) (by rw [← hgo hq,Wk,if_pos k1]) (by omega) hsm.2 (by rw [List.length_append,List.length_singleton];have:=s.sz_eq;omega) (by intro k;simp only [List.all_cons,List.all_nil,hc,hT,Bool.and_true]) (by simp [look,Za,h0]) (by simp [look,Za,h2]) (by simp [look,Za,h5]) (by simp [look,Za,h13]) (by simp [look,Za,h14]) (by simp [look,Za,h15])
    ·
     have b1:q≤q∧q≤1000000:=⟨Int.le_refl _,hi2⟩
     have qe:=(hE s (by rw [hl];simp) sc hsc).1 fs q _ (by omega) b1.2 (hP _ hT)
     have b2:=hEm m sc s.value q c b1.2
     rw [s.value.c_eq] at qe
     have hw:wS Ef Bf m sc s q c=Ef m sc s.value q c:=by rw [wS,if_pos k12,if_neg k2,het];simp [he]
     have fld1:[PV.agg [.str s.name,.int .i64 s.ty.kind,.str s.ty.name]]=flds [⟨s.name,s.ty⟩]:=rfl
     have qk:=fun h=>Ux fs sc h
     have hcf:=Vv (fs:=fs)
     simp only [Fl.full] at hcf
     have hz1:(sc.length+1)*40≤140737488355328:=by omega
     have hz2:sc.length≤140737488355327:=by omega
     refine loopK' (c:=p64l0) rfl ?_
     repeat' first|(with_reducible first|refine cS ?_ ?_|refine oS ?_ ?_|refine dS ?_ ?_)<;>intro _|((with_reducible refine kk ?_ ?_);·rfl)|simp -implicitDefEqProofs(disch:=first|omega|assumption)only[push_cast,simprocAttr,Zd,Zc,Ze,Zb,h0,h2,h5,h13,h14,h15,hg,h1',hq,hg0,hg1,y,k3,hx,he,hqc,qe,k2,qk,hcf,hz1,hz2,fld1,Xy,Y5,stabG,stabS,Z1,Yb,Z0,Zt,Zy,Z9,Ya,Zz,Zu,Zp]|(with_reducible first|refine cB ?_ ?_|refine oB ?_ ?_|refine dB ?_ ?_)<;>intro _|with_reducible first|refine Z2 ?_ ?_|refine Z3 (by decide) ?_|refine Z4 (by decide) ?_ ?_|exact Z5|refine Zx ?_|refine Zq ?_
     rw [← hw]
     refine ih (pre++[s]) (wS Ef Bf m sc s q c) (sc++[⟨s.name,s.ty⟩]) .any _ _ _ (by simp [hl]) (by rw [← hgo hq,Wk,if_pos k1]) (by omega) hsm.2 (by rw [List.length_append,List.length_singleton];have:=s.sz_eq;omega) (by intro k;simp only [List.all_cons,List.all_nil,hc,hT,Bool.and_true]) (by simp [look,Za,h0]) (by simp [look,Za,h2]) (by simp [look,Za,h5]) (by simp [look,Za,h13]) (by simp [look,Za,h14]) (by simp [look,Za,h15])
  ·have k1:¬ s.kind=1:=fun h=>k12 (.inl h)
   have k2:¬ s.kind=2:=fun h=>k12 (.inr h)
   have qa:=X6 A q c 1 hi1 hi2 (by omega) (by omega) _ (hP o1 ho1)
   have b1:=Yy hi2 (n:=1) (by omega)
   obtain ⟨f1,qb⟩:=(hB s (by rw [hl];simp) sc (by omega)).1 fs s.fb _ _ (by omega) b1.2 (hP o1 ho1)
   have b3:=hBm m sc s.body _ c b1.2
   obtain ⟨f2,qc⟩:=(hB s (by rw [hl];simp) sc (by omega)).2 fs s.fe _ _ (by omega) b3.2 (hP o1 ho1)
   have hw:wS Ef Bf m sc s q c=(Bf m sc s.els (Bf m sc s.body (X8 q 1) c).1 c).1:=by rw [wS,if_neg k12,if_neg k3]
   refine loopK' (c:=p64l0) rfl ?_
   repeat' first|(with_reducible first|refine cS ?_ ?_|refine oS ?_ ?_|refine dS ?_ ?_)<;>intro _|((with_reducible refine kk ?_ ?_);·rfl)|simp -implicitDefEqProofs(disch:=first|omega|assumption)only[push_cast,simprocAttr,Zd,Zc,Ze,Zb,h0,h2,h5,h13,h14,h15,hg,h1',hq,hg0,k1,k2,k3,qa,qb,qc]|(with_reducible first|refine cB ?_ ?_|refine oB ?_ ?_|refine dB ?_ ?_)<;>intro _
   rw [← hw]
   refine ih (pre++[s]) (wS Ef Bf m sc s q c) sc fs _ _ _ (by simp [hl]) (by rw [← hgo hq,Wk,if_neg k1]) (by omega) hsm.2 (by omega) (by intro k;simp only [List.all_cons,List.all_nil,hc,ho1,Bool.and_true]) (by simp [look,Za,h0]) (by simp [look,Za,h2]) (by simp [look,Za,h5]) (by simp [look,Za,h13]) (by simp [look,Za,h14]) (by simp [look,Za,h15])
end
section
theorem Vp (m:Mod) (hm:m.Ok) (sc:List Fld) (l:List St) (A c:Int) (Ef:EF) (Bf:BF) (hEm:Ww Ef) (hBm:W2 Bf) (hb:sc.length+szS l≤1048576)
  (hE:∀ s∈l,∀ sc:List Fld,sc.length≤1048576→Wo Ef m sc A c s.value∧Wo Ef m sc A c s.target) (hB:∀ s∈l,∀ sc:List Fld,sc.length+s.sz≤1048576→Ub Bf m sc A c s.body∧Ub Bf m sc A c s.els) :
  Ub (fun m sc l q c=>wB' Ef Bf m c sc l q) m sc A c l:=by
 intro fs f q H h0 h1 hH
 have hl:=m.hm
 have hw:=fun s=>Wf (k:=H.length+1) (A:=A) (s:=s) (c:=c)
 have hll:=szS_len l
 have hsz:∀ s∈l,s.sz≤1048576:=fun s hs=>Nat.le_trans (Xb hs) (by omega)
 have key:∀ P:PV→Heap→Prop,(∀ fl',P (.vs fl' (flds (wB' Ef Bf m c sc l q).2)) (wH A (wB' Ef Bf m c sc l q).1 c H))→∃ rr h',doCall E (callR E) 64 [.ptr (0,0) 1 0 0,.agg m.c,.vs fs (flds sc),.vs f (sts l)] (wH A q c H)=some (rr,h')∧P rr h':=by
  intro P hP
  refine call_impX1 (pf:=p64) rfl rfl rfl rfl rfl ?_
  show kQ E _ (endX [⟨8,none⟩] _ _) .norm { lvl:=H.length+1,tmps:=mk 106 [(0,.ptr (0,0) 1 0 0),(1,.agg m.c),(2,.vs fs (flds sc)),(3,.vs f (sts l))],heap:=wH A q c (H++[[none,none]]),defers:=[] }
  repeat' first|(with_reducible first|refine cS ?_ ?_|refine oS ?_ ?_|refine dS ?_ ?_)<;>intro _|((with_reducible refine kk ?_ ?_);·rfl)|simp -implicitDefEqProofs(disch:=first|omega|assumption)only[push_cast,simprocAttr,Zd,Zc,Ze,Zb,Xk]|(with_reducible first|refine cB ?_ ?_|refine oB ?_ ?_|refine dB ?_ ?_)<;>intro _
  with_reducible refine U9 m hm l (by omega) (f:=f) A c Ef Bf hEm hBm hsz hE hB H hH (wB' Ef Bf m c sc l q) ?_ l [] q sc fs none none _ rfl rfl h0 h1 hb (fun _=>rfl) (by simp [look,Za]) (by simp [look,Za]) (by simp [look,Za]) (by simp [look,Za]) (by simp [look,Za]) (by simp [look,Za])
  intro t q' sc' fs' o0 o1 hf k2
  have hP':=hP fs'
  rw [hf] at hP'
  repeat' first|(with_reducible first|refine cS ?_ ?_|refine oS ?_ ?_|refine dS ?_ ?_)<;>intro _|((with_reducible refine kk ?_ ?_);·rfl)|simp -implicitDefEqProofs(disch:=first|omega|assumption)only[push_cast,simprocAttr,Zd,Zc,Ze,Zb,k2]|(with_reducible first|refine cB ?_ ?_|refine oB ?_ ?_|refine dB ?_ ?_)<;>intro _
  refine endX_ret (rr:=.vs fs' (flds sc')) (Wg rfl) ?_ rfl ?_
  ·show heapLow (H.length+1) ((wH A q' c (H++[[o0,o1]])).take (H.length+1))=true
   simp only [List.take_succ_cons,tk_t,hl_c,List.all_cons,List.all_nil,hw,hH,Bool.and_true]
  ·show P _ ((wH A q' c (H++[[o0,o1]])).take (H.length+1))
   simp only [List.take_succ_cons,tk_t]
   exact hP'
 obtain ⟨rr,h',hd,fl',rfl,rfl⟩:=key (fun rr h'=>∃ fl',rr=.vs fl' (flds (wB' Ef Bf m c sc l q).2)∧h'=wH A (wB' Ef Bf m c sc l q).1 c H) fun fl'=>⟨fl',rfl,rfl⟩
 exact ⟨fl',hd⟩
end
section
theorem T8 (m:Mod) (sc:List Fld) (A c k o x q:Int) (nm:Str) (fs fl:Fl) (as:List Ex) (H:Heap) (h1:q≥1000000) (hH:heapLow (H.length+1) H=true) :
  doCall E (callR E) 95 [.ptr (0,0) 1 0 0,.agg m.c,.vs fs (flds sc),.agg [.int .i64 k,.int .i64 o,.str nm,.int .i64 x,.vs fl (exs as)]] (wH A q c H)=some (.tuple [],wH A q c H):=by
 have hl:=m.hm
 have hw:=fun s=>Wf (k:=H.length+1) (A:=A) (s:=s) (c:=c)
 refine Z7 (pf:=p95) rfl rfl rfl rfl rfl (by simp [PV.lowL,PV.low]) ?_
 show kQ E _ (endM [] _ _ _) .norm { lvl:=H.length+1,tmps:=mk 168 [(0,.ptr (0,0) 1 0 0),(1,.agg m.c),(2,.vs fs (flds sc)),(3,.agg [.int .i64 k,.int .i64 o,.str nm,.int .i64 x,.vs fl (exs as)])],heap:=[wO A q c]::(H++[[none,none,none,none,none]]),defers:=[] }
 repeat' first|(with_reducible first|refine cS ?_ ?_|refine oS ?_ ?_|refine dS ?_ ?_)<;>intro _|((with_reducible refine kk ?_ ?_);·rfl)|simp -implicitDefEqProofs(disch:=first|omega|assumption)only[push_cast,simprocAttr,Zd,Zc,Ze,Zb,hl,h1,hw,hH,Zm,Zn,allMarks,List.all_cons,List.all_nil]|(with_reducible first|refine cB ?_ ?_|refine oB ?_ ?_|refine dB ?_ ?_)<;>intro _
theorem Rb {m:Mod} {nm:Str} (h:takesF m 7 nm=true):wordF nm=0∧stF m nm<0∧bltF nm=true:=by
 simp only [takesF,Bool.and_eq_true,decide_eq_true_eq] at h
 obtain ⟨hm,_,hs⟩:=h
 simp only [resNames,List.mem_cons,List.not_mem_nil,or_false] at hm
 rcases hm with rfl|rfl|rfl|rfl|rfl<;>exact ⟨by decide,hs,by decide⟩
theorem Rc {m:Mod} {k:Int} {nm:Str} (h:¬ k=7):takesF m k nm=false:=by simp [takesF,h]
theorem U8 (m:Mod) (hm:m.Ok) (sc:List Fld) (hsc:sc.length≤1048576) (A c:Int) (hc0:0≤c) (hc1:c≤4194304) (Ef:EF) (Bf:BF) (hEm:Ww Ef) (hBm:W2 Bf) (e:Ex) (he:e.size≤1048576)
  (hE:∀ a∈e.args,Wo Ef m sc A c a) (hF:∀ (i:Nat) f,m.fs[i]?=some f→Ub Bf (m.win i) f.ps A (c+1) f.bodyS∧∀ q,Wo Ef (m.win i) (Bf (m.win i) f.ps f.bodyS q (c+1)).2 A (c+1) f.retE) :
  Wo (wE' A Ef Bf) m sc A c e:=by
 intro fs q H h0 h1 hH
 obtain ⟨k,o,nm,x,fl,as⟩:=e
 have hsz:=Ex.size_eq (.mk k o nm x fl as)
 have has:as.length≤1048576:=by have:=sizeL_len as;simp only [Ex.args] at hsz;omega
 have hx:=fun h=>exprtype_ok _ (.mk k o nm x fl as) (Nat.le_refl _) he m hm fs sc hsc h
 obtain ⟨tk,tn,er,het⟩:∃ tk tn er,exprF m sc (.mk k o nm x fl as)=(⟨tk,tn⟩,er):=⟨_,_,_,rfl⟩
 rw [het] at hx
 have ec:(Ex.mk k o nm x fl as).c=[.int .i64 k,.int .i64 o,.str nm,.int .i64 x,.vs fl (exs as)]:=by simp [Ex.c]
 rw [ec] at hx ⊢
 have hE:∀ a∈as,Wo Ef m sc A c a:=hE
 show doCall E (callR E) 95 _ (wH A q c H)=some (.tuple [],wH A (wE' A Ef Bf m sc (.mk k o nm x fl as) q c) c H)
 have hv:wE' A Ef Bf m sc (.mk k o nm x fl as) q c=if q≥1000000 then q else if 0≤atF m k nm er∧c>A then X8 q 1 else wF Ef Bf m (atF m k nm er) (wL Ef m sc c (Vn m k nm er as) (X8 q (W1 m sc k (⟨tk,tn⟩,er)))) c:=by
  rw [wE',het]
 rw [hv]
 by_cases hq:q≥1000000
 ·rw [if_pos hq]
  exact T8 m sc A c k o x q nm fs fl as H hq hH
 rw [if_neg hq]
 have hno:∀ s,wF Ef Bf m (-1) s c=s:=fun s=>by rw [wF,if_pos (by decide)]
 by_cases he0:er=0
 ·by_cases k7:k=7
  ·subst k7
   have hown:W1 m sc 7 (⟨tk,tn⟩,er)=mxI 1 (compF m tk tn):=by simp [W1,he0]
   by_cases ht:takesF m 7 nm=true
   ·obtain ⟨w0,s0,b0⟩:=Rb ht
    have hat:atF m 7 nm er = -1:=by simp [atF,b0]
    have hpos:1≤as.length:=by
     have:=Tb (by rw [het];exact he0) ht
     exact List.length_pos_iff.2 this
    rw [hat,if_neg (by simp),hno,hown,show Vn m 7 nm er as=as.drop 1 by simp [Vn,he0,ht]]
    exact we_bt m hm sc A c Ef hEm o x tk er nm tn fs fl as q H h0 hq hH has hE hx he0 ht hpos w0 s0 b0
   ·have ht:takesF m 7 nm=false:=by simpa using ht
    have hag:Vn m 7 nm er as=as:=by simp [Vn,ht]
    by_cases w0:wordF nm=0
    ·by_cases s0:stF m nm<0
     ·cases b0:bltF nm
      ·have hat:atF m 7 nm er=fnF m nm:=by simp [atF,he0,w0,s0,b0]
       by_cases hf:fnF m nm<0
       ·have h2:=(Xq (fun s:Fun'=>decide (s.name=nm)) m.fs).2.2 hf
        rw [hat,if_neg (by omega),show fnF m nm = -1 from h2,hno,hown,hag]
        exact we_nf m hm sc A c Ef hEm o x tk er nm tn fs fl as q H h0 hq hH has hE hx he0 ht w0 s0 b0 hf (by omega)
       ·obtain ⟨i,hi⟩:=Int.eq_ofNat_of_zero_le (show 0≤fnF m nm by omega)
        have hlt:i<m.fs.length:=by
         have:=(Xq (fun s:Fun'=>decide (s.name=nm)) m.fs).2.1
         have hi':idxF (fun s:Fun'=>decide (s.name=nm)) m.fs=(i:Int):=hi
         omega
        by_cases hca:c>A
        ·rw [hat,if_pos ⟨by omega,hca⟩]
         exact we_c m hm sc A c Ef hEm o x tk er nm tn fs fl as q H h0 hq hH has hE hx he0 ht w0 s0 b0 i hi hca
        ·rw [hat,if_neg (fun h=>hca h.2),hown,hag,hi]
         obtain ⟨h47,h98⟩:=hF i m.fs[i] (List.getElem?_eq_getElem hlt)
         exact we_f m hm sc A c Ef Bf hEm o x tk er nm tn fs fl as q H h0 hq hH has hE hx he0 ht w0 s0 b0 i hi hca m.fs[i] (List.getElem?_eq_getElem hlt) (hm.pf _ (List.getElem_mem hlt)) hc0 hc1 hBm h47 h98
      ·have hat:atF m 7 nm er = -1:=by simp [atF,b0]
       rw [hat,if_neg (by simp),hno,hown,hag]
       exact we_bf m hm sc A c Ef hEm o x tk er nm tn fs fl as q H h0 hq hH has hE hx he0 ht w0 s0 b0
     ·have hat:atF m 7 nm er = -1:=by simp [atF,s0]
      rw [hat,if_neg (by simp),hno,hown,hag]
      exact we_sf m hm sc A c Ef hEm o x tk er nm tn fs fl as q H h0 hq hH has hE hx he0 ht w0 s0
    ·have hat:atF m 7 nm er = -1:=by simp [atF,w0]
     rw [hat,if_neg (by simp),hno,hown,hag]
     exact we_wf m hm sc A c Ef hEm o x tk er nm tn fs fl as q H h0 hq hH has hE hx he0 ht w0
  ·have ht:=Rc (m:=m) (nm:=nm) k7
   have hat:atF m k nm er = -1:=by simp [atF,k7]
   rw [hat,if_neg (by simp),hno,show Vn m k nm er as=as by simp [Vn,ht]]
   by_cases k9:k=9
   ·subst k9
    rw [show W1 m sc 9 (⟨tk,tn⟩,er)=4 by simp [W1,he0]]
    exact we_k9 m hm sc A c Ef hEm o x tk er nm tn fs fl as q H h0 hq hH has hE hx he0 ht
   ·rw [show W1 m sc k (⟨tk,tn⟩,er)=mxI 1 (compF m tk tn) by simp [W1,he0,k9]]
    exact we_k m hm sc A c Ef hEm k o x tk er nm tn fs fl as q H h0 hq hH has hE hx he0 ht k7 k9
 ·have hat:atF m k nm er = -1:=by simp [atF,he0]
  rw [hat,if_neg (by simp),hno,show Vn m k nm er as=as by simp [Vn,he0],show W1 m sc k (⟨tk,tn⟩,er)=1 by simp [W1,he0]]
  exact we_err m hm sc A c Ef hEm k o x tk er nm tn fs fl as q H h0 hq hH has hE hx he0
def W6 (m:Mod):Prop:=∀ f∈m.fs,f.ps.length+(szS f.bodyS+f.retE.size)≤1048576
theorem win_fs {m:Mod} (h:W6 m) (i:Nat):W6 (m.win i):=fun f hf=>h f (List.mem_of_mem_take hf)
theorem Ta {Ef:EF} {Bf:BF} {m:Mod} {c:Int}:∀ (l:List St) (sc:List Fld) (s:Int),(wB' Ef Bf m c sc l s).2.length≤sc.length+szS l
 | [],sc,s=>by simp [wB',szS]
 | st::r,sc,s=>by
  have h1:=Ta (Ef:=Ef) (Bf:=Bf) (m:=m) (c:=c) r (Wk sc st) (wS Ef Bf m sc st s c)
  have h2:(Wk sc st).length≤sc.length+1:=by unfold Wk;split<;>simp
  have h3:=st.sz_eq
  simp only [wB',szS]
  split
  ·simp
  ·omega
theorem W_len (A:Int) (n:Nat) (m:Mod) (sc:List Fld) (l:List St) (s c:Int):((W A n).2 m sc l s c).2.length≤sc.length+szS l:=by
 cases n with
 | zero=>exact Nat.le_add_right _ _
 | succ n=>exact Ta l sc s
theorem Ut {K i L n a e:Nat} (h:i<L) (hn:L*K+e≤n+1) (ha:a<K):i*K+a≤n:=by
 have hmul:(i+1)*K≤L*K:=Nat.mul_le_mul_right _ h
 rw [Nat.add_mul,Nat.one_mul] at hmul
 omega
theorem W_ok (A:Int) (K:Nat) (hK:K=1048577):∀ (n:Nat) (m:Mod),m.Ok→W6 m→∀ (c:Int),0≤c→c+m.fs.length≤4194304 →
  (∀ sc e,sc.length≤1048576→e.size≤1048576→m.fs.length*K+e.size≤n→Wo (W A n).1 m sc A c e) ∧
  (∀ sc l,sc.length+szS l≤1048576→m.fs.length*K+szS l≤n→Ub (W A n).2 m sc A c l):=by
 intro n
 induction n with
 | zero =>
  intro m hm hfs c h0 h1
  refine ⟨fun sc e hs he hn=>?_,fun sc l hs hn=>?_⟩
  ·have:=e.size_eq
   omega
  ·have hl:=szS_len l
   obtain rfl:l=[]:=List.eq_nil_of_length_eq_zero (by omega)
   obtain ⟨hEm,hBm⟩:=Ui A 0
   have:=Vp m hm sc [] A c _ _ hEm hBm hs (fun s h=>by cases h) (fun s h=>by cases h)
   exact this
 | succ n ih =>
  intro m hm hfs c h0 h1
  obtain ⟨hEm,hBm⟩:=Ui A n
  obtain ⟨i1,i2⟩:=ih m hm hfs c h0 h1
  refine ⟨fun sc e hs he hn=>?_,fun sc l hs hn=>?_⟩
  ·refine U8 m hm sc hs A c h0 (by omega) _ _ hEm hBm e he (fun a ha=>?_) (fun i f hf=>?_)
   ·have h2:=e.size_eq
    have h3:=Ex.size_mem ha
    exact i1 sc a hs (by omega) (by omega)
   ·have hlt:i<m.fs.length:=by
     rcases Nat.lt_or_ge i m.fs.length with h|h
     ·exact h
     ·rw [List.getElem?_eq_none h] at hf;cases hf
    have hwl:(m.win i).fs.length=i:=by
     show (m.fs.take i).length=i
     simp;omega
    have hff:=hfs f (List.mem_of_getElem? hf)
    obtain ⟨j1,j2⟩:=ih (m.win i) (Vw hm i) (win_fs hfs i) (c+1) (by omega) (by rw [hwl];omega)
    rw [hwl] at j1 j2
    refine ⟨j2 f.ps f.bodyS (by omega) (Ut hlt hn (by omega)),fun q=>j1 _ f.retE ?_ (by omega) (Ut hlt hn (by omega))⟩
    have:=W_len A n (m.win i) f.ps f.bodyS q (c+1)
    omega
  ·refine Vp m hm sc l A c _ _ hEm hBm hs (fun s h sc' hs'=>?_) (fun s h sc' hs'=>?_)
   ·have h2:=Xb h
    have h3:=s.sz_eq
    exact ⟨i1 sc' s.value hs' (by omega) (by omega),i1 sc' s.target hs' (by omega) (by omega)⟩
   ·have h2:=Xb h
    have h3:=s.sz_eq
    exact ⟨i2 sc' s.body (by omega) (by omega),i2 sc' s.els (by omega) (by omega)⟩
theorem W_run (n A:Nat) (m:Mod) (hm:m.Ok) (hfs:W6 m) (hA:A=m.fs.length) (hf:m.fs.length≤4194304) (hmn:szS m.mainS≤1048576) (hn:m.fs.length*1048577+szS m.mainS≤n) :
  ∃ fl',doCall E (callR E) 64 [.ptr (0,0) 1 0 0,.agg m.c,.vs .nil [],.vs m.mf m.main] [[wO m.fs.length 0 0]]=some (.vs fl' (flds ((W A n).2 m [] m.mainS 0 0).2),[[wO m.fs.length ((W A n).2 m [] m.mainS 0 0).1 0]]):=by
 subst hA
 obtain ⟨fl',hq⟩:=(W_ok m.fs.length 1048577 rfl n m hm hfs 0 (by omega) (by omega)).2 [] m.mainS (by simpa using hmn) hn .nil m.mf 0 [] (by omega) (by omega) rfl
 exact ⟨fl',hq⟩
theorem Uu (k:Nat):∃ n,k*1048577+1048576≤n:=⟨_,Nat.le_refl _⟩
noncomputable def fuelN (k:Nat):Nat:=Classical.choose (Uu k)
noncomputable def V5 (m:Mod):Nat:=fuelN m.fs.length
theorem Tp (m:Mod) (h:szS m.mainS≤1048576):m.fs.length*1048577+szS m.mainS≤V5 m:=Nat.le_trans (Nat.add_le_add_left h _) (Classical.choose_spec (Uu m.fs.length))
noncomputable def Vx (m:Mod):Int:=((W m.fs.length (V5 m)).2 m [] m.mainS 0 0).1
theorem U0 (m:Mod) (hm:m.Ok) (hfs:W6 m) (hmn:szS m.mainS≤1048576) (h:Heap):doCall E (callR E) 41 [.agg m.c] h=some (.int .i64 (Vx m),h):=by
 have h1:=m.hm
 have hf:=hm.fs
 obtain ⟨fl',hq'⟩:=W_run (V5 m) m.fs.length m hm hfs rfl (by omega) hmn (Tp m hmn)
 obtain ⟨w,hw⟩:∃ w,w=((W m.fs.length (V5 m)).2 m [] m.mainS 0 0).1:=⟨_,rfl⟩
 obtain ⟨z,hz⟩:∃ z,z=((W m.fs.length (V5 m)).2 m [] m.mainS 0 0).2:=⟨_,rfl⟩
 have hw':Vx m=w:=by rw [Vx,hw]
 rw [← hw,← hz] at hq'
 rw [hw']
 refine Zg (pf:=p41) rfl rfl rfl rfl (by simp [PV.lowL,PV.low,Zj,Zi,Zk,Zl,h1]) (by simp [PV.low,PV.lowL,Zj,Zi,Zk,Zl,h1]) ?_ h
 show kQ E _ (endQ [⟨2,none⟩] _) .norm { lvl:=0,tmps:=mk 18 [(0,.agg m.c)],heap:=[[none]],defers:=[] }
 repeat' first|(with_reducible first|refine cS ?_ ?_|refine oS ?_ ?_|refine dS ?_ ?_)<;>intro _|((with_reducible refine kk ?_ ?_);·rfl)|simp -implicitDefEqProofs(disch:=first|omega|assumption)only[push_cast,simprocAttr,Zd,Zc,Ze,Zb,h1,hq']|(with_reducible first|refine cB ?_ ?_|refine oB ?_ ?_|refine dB ?_ ?_)<;>intro _
end
section
theorem Tn (m:Mod) (hm:m.Ok) (hfs:W6 m) (hmn:szS m.mainS≤1048576) (h:Heap):doCall E (callR E) 39 [.ip m.c] h=some (.int .i64 (whenF (decide (Vx m>512)) 5),h):=by
 have h1:=m.hm
 have hq:=fun h=>U0 m hm hfs hmn h
 obtain ⟨w,hw⟩:∃ w,w=Vx m:=⟨_,rfl⟩
 rw [← hw] at hq ⊢
 refine Zg (pf:=p39) rfl rfl rfl rfl (by simp [PV.lowL,PV.low,Zj,Zi,Zk,Zl,h1]) (by simp [PV.low,PV.lowL,Zj,Zi,Zk,Zl,h1]) ?_ h
 show kQ E _ (endQ [⟨1,none⟩] _) .norm { lvl:=0,tmps:=mk 6 [(0,.ip m.c)],heap:=[[]],defers:=[] }
 by_cases b:w>512
 ·repeat' first|(with_reducible first|refine cS ?_ ?_|refine oS ?_ ?_|refine dS ?_ ?_)<;>intro _|((with_reducible refine kk ?_ ?_);·rfl)|simp -implicitDefEqProofs(disch:=first|omega|assumption)only[push_cast,simprocAttr,Zd,Zc,Ze,Zb,h1,hq,Yk,b]|(with_reducible first|refine cB ?_ ?_|refine oB ?_ ?_|refine dB ?_ ?_)<;>intro _
  all_goals simp [b]
 ·repeat' first|(with_reducible first|refine cS ?_ ?_|refine oS ?_ ?_|refine dS ?_ ?_)<;>intro _|((with_reducible refine kk ?_ ?_);·rfl)|simp -implicitDefEqProofs(disch:=first|omega|assumption)only[push_cast,simprocAttr,Zd,Zc,Ze,Zb,h1,hq,Yk,b]|(with_reducible first|refine cB ?_ ?_|refine oB ?_ ?_|refine dB ?_ ?_)<;>intro _
  all_goals simp [b]
def Wr (m:Mod):List Clo:=[⟨33,[.ptr (0,1) 1 0 0],[]⟩,⟨34,[.ptr (0,1) 1 0 0],[]⟩,⟨35,[.ptr (0,1) 1 0 0],[]⟩,⟨36,[.ptr (0,1) 1 0 0],[]⟩,⟨37,[.ptr (0,1) 1 0 0],[]⟩,⟨38,[.ptr (0,1) 1 0 0],[]⟩,⟨39,[],[.ip m.c]⟩]
noncomputable def W3 (m:Mod):Int × (List Str × Nat) :=
 chainF [fun s=>(limF m,s),fun s=>structsF m s.1 s.2,globF m,fun s=>(whenF (totB m) 5,s),fun s=>Wl m 0 m.fs s.1 s.2,fun s=>(Vr m,s),fun s=>(whenF (decide (Vx m>512)) 5,s)] ([],0)
noncomputable def Wb (m:Mod):Int:=(W3 m).1
theorem T4 (m:Mod) (k:Nat):obLow (k+1) (some (.mem (clos (Wr m)) 1 false 1))=true:=by
 have h1:=PV.lowL_k (k:=k+1) _ m.hm
 simp [obLow,PV.lowL,PV.low,clos,Wr,Nat.blt_eq,Mod.c,h1,Zj,Zi,Zk,Zl]
theorem V7 (m:Mod) (hm:m.Ok) (hz:m.OkZ) (hfs:W6 m) (o2:List (Option Ob)) (ho2:o2=[some (.mem (clos (Wr m)) 1 false 1)]) :
  doCall E (callR E) 32 [.sl (0,2) 1 0 7] [usO [] 0::ckO m::o2]=some (.int .i64 (Wb m),[usO (W3 m).2.1 (W3 m).2.2::ckO m::o2]):=by
 have hlo:LowH [[]] o2:=⟨rfl,by rw [ho2];simp only [List.all_cons,List.all_nil,Bool.and_true];exact T4 m 1⟩
 have hall:∀ s:List Str × Nat,hget [usO s.1 s.2::ckO m::o2] (0,2)=some (.mem (clos (Wr m)) 1 false 1):=by
  intro s
  rw [ho2];rfl
 have hmn:szS m.mainS≤1048576:=by have:=hz.tot;omega
 have hfz:∀ s∈m.fs,s.ps.length+(szS s.bodyS+s.retE.size)≤1048576:=hfs
 have hF:=first_chain (nm:=(0,2)) (g:=1) (k:=1) (all:=clos (Wr m)) (fun s:List Str × Nat=>[usO s.1 s.2::ckO m::o2]) (fun _=>rfl) hall
  [(⟨33,[.ptr (0,1) 1 0 0],[]⟩,fun s=>(limF m,s)),(⟨34,[.ptr (0,1) 1 0 0],[]⟩,fun s=>structsF m s.1 s.2),(⟨35,[.ptr (0,1) 1 0 0],[]⟩,globF m),(⟨36,[.ptr (0,1) 1 0 0],[]⟩,fun s=>(whenF (totB m) 5,s)),(⟨37,[.ptr (0,1) 1 0 0],[]⟩,fun s=>Wl m 0 m.fs s.1 s.2),(⟨38,[.ptr (0,1) 1 0 0],[]⟩,fun s=>(Vr m,s)),(⟨39,[],[.ip m.c]⟩,fun s=>(whenF (decide (Vx m>512)) 5,s))]
  (by
   intro p hp s
   simp only [List.mem_cons,List.not_mem_nil,or_false] at hp
   rcases hp with e|e|e|e|e|e|e
   ·rw [e];exact limits_ok m hm hz s.1 s.2 o2 [[]] hlo
   ·rw [e];exact structs_ok m hm s.1 s.2 o2 [[]] hlo
   ·rw [e];exact globals_ok m hm s.1 s.2 o2 [[]] hlo
   ·rw [e];exact totals_ok m hm s.1 s.2 o2 [[]] hlo
   ·rw [e];exact Vz m hm hfz s.1 s.2 o2 [[]] hlo
   ·rw [e];exact T2 m hm hz s.1 s.2 o2 [[]] hlo
   ·rw [e];exact Tn m hm hfs hmn _) ([],0)
 exact first_ok (0,2) 1 (Wr m) (by simp [Wr]) _ [usO [] 0::ckO m::o2] _ (by simp) (hall ([],0)) hF (by
  show ((usO _ _::ckO m::o2).all (obLow 1)&&true)=true
  rw [List.all_cons,List.all_cons,Xl,X5 m 0,ho2,List.all_cons,T4 m 0]
  rfl)
set_option maxHeartbeats 4000000 in
theorem V6 (m:Mod) (hm:m.Ok) (hz:m.OkZ) (hfs:W6 m) (h:Heap):doCall E (callR E) 20 [.agg m.c] h=some (.int .i64 (Wb m),h):=by
 have h1:=m.hm
 have hq:=V7 m hm hz hfs _ rfl
 obtain ⟨u,hu⟩:∃ u,u=usO (W3 m).2.1 (W3 m).2.2:=⟨_,rfl⟩
 rw [← hu] at hq
 simp only [clos,Wr,Clo.v,List.map_cons,List.map_nil] at hq
 rw [show usO [] 0=some (.map [] 0 1) from rfl] at hq
 unfold ckO at hq
 refine Zg (pf:=p20) rfl rfl rfl rfl (by simp [PV.lowL,PV.low,Zj,Zi,Zk,Zl,h1]) (by simp [PV.low,PV.lowL,Zj,Zi,Zk,Zl,h1]) ?_ h
 show kQ E _ (endQ [⟨2,none⟩] _) .norm { lvl:=0,tmps:=mk 23 [(0,.agg m.c)],heap:=[[none,none,none]],defers:=[] }
 repeat' first|(with_reducible first|refine cS ?_ ?_|refine oS ?_ ?_|refine dS ?_ ?_)<;>intro _|((with_reducible refine kk ?_ ?_);·rfl)|simp -implicitDefEqProofs(disch:=first|omega|assumption)only[push_cast,simprocAttr,Zd,Zc,Ze,Zb,h1,hq,Yv,Yq,Yp,Yo,Yh,Yx,Yi,stabG,stabS,Z1,Yb,Z0,Zt,Zy,Z9,Ya,Zz,Zu,Zp]|(with_reducible first|refine cB ?_ ?_|refine oB ?_ ?_|refine dB ?_ ?_)<;>intro _|with_reducible first|refine Z2 ?_ ?_|refine Z3 (by decide) ?_|refine Z4 (by decide) ?_ ?_|exact Z5|refine Zx ?_|refine Zq ?_
end
section
section
variable {m:Mod} {f:Fl} {l:List St}
end
end
section
theorem W5 (m:Mod):Wb m=0↔limF m=0∧(structsF m [] 0).1=0∧(globF m (structsF m [] 0).2).1=0∧whenF (totB m) 5=0∧(Wl m 0 m.fs (globF m (structsF m [] 0).2).2.1 (globF m (structsF m [] 0).2).2.2).1=0∧Vr m=0∧whenF (decide (Vx m>512)) 5=0:=by
 unfold Wb W3
 simp only [chainF]
 by_cases h1:limF m=0
 ·by_cases h2:(structsF m [] 0).1=0
  ·by_cases h3:(globF m (structsF m [] 0).2).1=0
   ·by_cases h4:whenF (totB m) 5=0
    ·by_cases h5:(Wl m 0 m.fs (globF m (structsF m [] 0).2).2.1 (globF m (structsF m [] 0).2).2.2).1=0
     ·by_cases h6:Vr m=0
      ·by_cases h7:whenF (decide (Vx m>512)) 5=0
       ·simp only [h1,h2,h3,h4,h5,h6,h7,if_true,and_self]
       ·simp only [h1,h2,h3,h4,h5,h6,h7,if_true,if_false,and_false]
      ·simp only [h1,h2,h3,h4,h5,h6,if_true,if_false,and_false,false_and]
     ·simp only [h1,h2,h3,h4,h5,if_true,if_false,and_false,false_and]
    ·simp only [h1,h2,h3,h4,if_true,if_false,and_false,false_and]
   ·simp only [h1,h2,h3,if_true,if_false,and_false,false_and]
  ·simp only [h1,h2,if_true,if_false,and_false,false_and]
 ·simp only [h1,if_false,false_and]
section
variable {m:Mod} {f:Fl}
theorem U7 {b:Bool} {e:Int} (h:e≠0):whenF b e=0↔b=false:=by unfold whenF;cases b<;>simp [h]
theorem limB_0 (m:Mod):limB m=false↔nodesF m≤1000∧depthF m≤16∧manyF m≤16∧m.ts.length≤4∧m.bs.length≤4:=by
 unfold limB
 simp only [Bool.or_eq_false_iff,decide_eq_false_iff_not,Int.not_lt,gt_iff_lt]
 omega
end
end
section
def Wc (C:Ty→Int):List Fld→Int→Int
 | [],n=>n
 | f::r,n=>Wc C r (if n+C f.ty<1000 then n+C f.ty else 1000)
abbrev Va (m:Mod) (t:Ty):Int:=compF m t.kind t.name
theorem Ue {m:Mod} {acc:List Int}:∀ (l:List Fld) (n:Int),sumG m acc l n=Wc (fun t=>compG m acc t.kind t.name) l n
 | [],n=>rfl
 | f::r,n=>by simp only [sumG,Wc,Ue r]
theorem Uo {C D:Ty→Int}:∀ (l:List Fld) (n:Int),(∀ f∈l,C f.ty=D f.ty)→Wc C l n=Wc D l n
 | [],n,_=>rfl
 | f::r,n,h=>by
  simp only [Wc,h f (List.mem_cons_self ..)]
  exact Uo r _ fun g hg=>h g (List.mem_cons_of_mem _ hg)
theorem Ud {m:Mod} {l:List Fld}:totF m l=Wc (Va m) l 0:=Ue l 0
theorem V3 {m:Mod}:∀ (l:List Sct) (acc:List Int),∃ tl,sizG m l acc=acc++tl
 | [],acc=>⟨[],by simp [sizG]⟩
 | s::r,acc=>by
  obtain ⟨tl,h⟩:=V3 (m:=m) r (acc++[sumG m acc s.fs 0])
  exact ⟨sumG m acc s.fs 0::tl,by rw [sizG,h];simp⟩
theorem V2 {m:Mod}:∀ (l:List Sct) (acc:List Int) (i:Nat) (s:Sct),l[i]?=some s→(sizG m l acc)[acc.length+i]?=some (sumG m ((sizG m l acc).take (acc.length+i)) s.fs 0)
 | [],acc,i,s,h=>by simp at h
 | x::r,acc,0,s,h=>by
  simp only [List.getElem?_cons_zero,Option.some.injEq] at h
  subst h
  obtain ⟨tl,ht⟩:=V3 (m:=m) r (acc++[sumG m acc x.fs 0])
  rw [sizG,ht]
  simp
 | x::r,acc,i+1,s,h=>by
  have:=V2 (m:=m) r (acc++[sumG m acc x.fs 0]) i s (by simpa using h)
  rw [List.length_append] at this
  rw [sizG,show acc.length+(i+1)=acc.length+1+i by omega]
  exact this
theorem at_get {l:List Int} {j:Int} {z:Int} {i:Nat} (hj:j=i) (h:l[i]?=some z):at' l j=z:=by
 subst hj
 simp [at',h]
theorem Vs {p:Sct→Bool}:∀ (l:List Sct) (k:Nat) (i:Int),0≤i→0≤idxG p (l.take k) i→idxG p l i=idxG p (l.take k) i∧idxG p l i<i+k
 | [],k,i,h0,h=>by simp [idxG] at h
 | s::r,0,i,h0,h=>by simp [idxG] at h
 | s::r,k+1,i,h0,h=>by
  rw [List.take_succ_cons] at h ⊢
  simp only [idxG] at h ⊢
  by_cases hp:p s=true
  ·simp only [hp,if_true] at h ⊢
   exact ⟨trivial,by omega⟩
  ·simp only [hp] at h ⊢
   have:=Vs r k (i+1) (by omega) h
   exact ⟨this.1,by have:=this.2;push_cast at this ⊢;omega⟩
theorem Vt {p:Sct→Bool} {l:List Sct} {k:Nat} (h:0≤idxF p (l.take k)):idxF p l=idxF p (l.take k)∧idxF p l<k:=by
 have:=Vs (p:=p) l k 0 (by omega) h
 exact ⟨this.1,by have:=this.2;unfold idxF;omega⟩
theorem Wv:∀ (l pre:List Sct) (us:List Str) (c:Nat),(structsG pre l us c).1=0→∀ (i:Nat) (s:Sct),l[i]?=some s→∀ f∈s.fs,validF (pre++l.take i) f.ty=true
 | [],pre,us,c,_,i,s,h=>by simp at h
 | x::r,pre,us,c,h0,i,s,h=>by
  unfold structsG at h0
  split at h0
  ·split at h0
   ·exact absurd (show (11:Int)=0 from h0) (by decide)
   ·split at h0
    ·rename_i hs
     cases i with
     | zero =>
      simp only [List.getElem?_cons_zero,Option.some.injEq] at h
      subst h
      simp only [List.take_zero,List.append_nil]
      exact sf_valid x.fs [] hs
     | succ i =>
      have:=Wv r (pre++[x]) _ _ h0 i s (by simpa using h)
      simpa using this
    ·rename_i hs;exact absurd h0 hs
  ·exact absurd (show (13:Int)=0 from h0) (by decide)
where
 sf_valid {ss:List Sct}:∀ (l:List Fld) (ns:List Str),sfF ss l ns=0→∀ f∈l,validF ss f.ty=true
  | [],ns,_,f,hf=>by cases hf
  | x::r,ns,h,f,hf=>by
   unfold sfF at h
   split at h
   ·split at h
    ·rename_i hv
     rcases List.mem_cons.1 hf with rfl|hf
     ·exact hv
     ·exact sf_valid r _ h f hf
    ·exact absurd h (by decide)
   ·exact absurd h (by decide)
theorem W7 {m:Mod} (hc:Wb m=0) {nm:Str} (h0:0≤stF m nm):compF m 8 nm=Wc (Va m) (fldsAt m (stF m nm)) 0:=by
 have hs:=((W5 m).1 hc).2.1
 obtain ⟨i,hi⟩:=Int.eq_ofNat_of_zero_le h0
 have hlt:i<m.ss.length:=by have:=(stF_bd m nm).2;omega
 have hg:m.ss[i]?=some m.ss[i]:=List.getElem?_eq_getElem hlt
 have hz:=V2 (m:=m) m.ss [] i _ hg
 have hv:=Wv m.ss [] [] 0 hs i _ hg
 simp only [List.length_nil,Nat.zero_add,List.nil_append] at hz hv
 have hl:(sizF m).length=m.ss.length:=sizF_len m
 have e1:compF m 8 nm=at' (sizF m) (stF m nm):=by
  unfold compF compG
  rw [if_pos rfl,if_neg (by omega)]
 have e2:fldsAt m (stF m nm)=m.ss[i].fs:=by rw [hi];simp [fldsAt,hg]
 rw [e1,e2,at_get (l:=sizF m) hi hz,Ue]
 refine Uo _ _ fun f hf=>?_
 have hvf:=hv f hf
 show compG m ((sizG m m.ss []).take i) f.ty.kind f.ty.name=compG m (sizF m) f.ty.kind f.ty.name
 unfold compG
 by_cases h8:f.ty.kind=8
 ·rw [if_pos h8,if_pos h8]
  unfold validF at hvf
  rw [if_pos h8,decide_eq_true_eq] at hvf
  have hj:=(Vt hvf).2
  have hj0:0≤stF m f.ty.name:=by
   have:=(Vt hvf).1
   unfold stF
   rw [this]
   exact hvf
  have hji:stF m f.ty.name<i:=hj
  have hll:(sizG m m.ss []).length=m.ss.length:=hl
  rw [if_neg (by rw [List.length_take];omega),if_neg (by omega)]
  obtain ⟨j,ej⟩:=Int.eq_ofNat_of_zero_le hj0
  rw [ej] at hji ⊢
  have:j<i:=by omega
  simp only [at',Int.toNat_natCast]
  simp [List.getD,List.getElem?_take,this,sizF]
 ·rw [if_neg h8,if_neg h8]
end
section
def Wh (S:Ty→Ty→Bool):List Fld→List Fld→Int→Int
 | [],[],_ => -1
 | [],_::_,i=>i
 | _::_,[],i=>i
 | a::r,b::s,i=>if a.name≠b.name∨S a.ty b.ty=false then i else Wh S r s (i+1)
def Wd (m n:Mod):Nat→Ty→Ty→Bool
 | 0,t,u=>decide (t=u)&&decide (t.kind≠8)
 | k+1,t,u=>decide (t=u)&&(decide (t.kind≠8)||(decide (0≤stF m t.name)&&(decide (0≤stF n t.name)&&decide (Wh (Wd m n k) (fldsAt m (stF m t.name)) (fldsAt n (stF n t.name)) 0 = -1))))
theorem Vi {S:Ty→Ty→Bool} {C D:Ty→Int} (hS:∀ t u,S t u=true→C t=D u):∀ (a b:List Fld) (i:Int),0≤i→Wh S a b i = -1→∀ s,Wc C a s=Wc D b s
 | [],[],_,_,_,_=>rfl
 | [],_::_,i,h0,h,_=>by simp only [Wh] at h;omega
 | _::_,[],i,h0,h,_=>by simp only [Wh] at h;omega
 | a::r,b::t,i,h0,h,s=>by
  simp only [Wh] at h
  split at h
  ·omega
  ·rename_i hn
   have hab:S a.ty b.ty=true:=by
    cases e:S a.ty b.ty
    ·exact absurd (.inr e) hn
    ·rfl
   simp only [Wc,hS _ _ hab]
   exact Vi hS r t (i+1) (by omega) h _
theorem Vj {m n:Mod} {k:Int} {nm:Str} (h:k≠8):compF m k nm=compF n k nm:=by
 unfold compF compG
 rw [if_neg h,if_neg h]
theorem Vq {m n:Mod} (hm:Wb m=0) (hn:Wb n=0):∀ (k:Nat) (t u:Ty),Wd m n k t u=true→Va m t=Va n u
 | 0,t,u,h=>by
  simp only [Wd,Bool.and_eq_true,decide_eq_true_eq] at h
  obtain ⟨rfl,h8⟩:=h
  exact Vj h8
 | k+1,t,u,h=>by
  simp only [Wd,Bool.and_eq_true,Bool.or_eq_true,decide_eq_true_eq] at h
  obtain ⟨rfl,h⟩:=h
  rcases h with h8|⟨h1,h2,h3⟩
  ·exact Vj h8
  ·by_cases h8:t.kind=8
   ·show compF m t.kind t.name=compF n t.kind t.name
    rw [h8,W7 hm h1,W7 hn h2]
    exact Vi (Vq hm hn k) _ _ 0 (by omega) h3 0
   ·exact Vj h8
theorem Uw {m n:Mod} (hm:Wb m=0) (hn:Wb n=0) {k:Nat} {a b:List Fld} (h:Wh (Wd m n k) a b 0 = -1):totF n b=Wc (Va m) a 0:=by
 rw [Ud]
 exact (Vi (Vq hm hn k) a b 0 (by omega) h 0).symm
theorem Un {C:Ty→Int}:∀ (l r:List Fld) (n:Int),l.map Fld.ty=r.map Fld.ty→Wc C l n=Wc C r n
 | [],[],_,_=>rfl
 | [],_::_,_,h=>by simp at h
 | _::_,[],_,h=>by simp at h
 | a::l,b::r,n,h=>by
  simp only [List.map_cons,List.cons.injEq] at h
  simp only [Wc,h.1]
  exact Un l r _ h.2
theorem Vc {C:Ty→Int}:∀ (l r:List Fld) (n:Int),Wc C (l++r) n=Wc C r (Wc C l n)
 | [],r,n=>rfl
 | a::l,r,n=>by simp only [List.cons_append,Wc];exact Vc l r _
theorem Wy {C:Ty→Int} (hC:∀ t,0≤C t):∀ (l:List Fld) (n:Int),0≤n→n≤1000→n≤Wc C l n∧Wc C l n≤1000
 | [],n,_,h=>⟨Int.le_refl _,h⟩
 | a::l,n,h0,h=>by
  have h1:=hC a.ty
  have:=Wy hC l (if n+C a.ty<1000 then n+C a.ty else 1000) (by split<;>omega) (by split<;>omega)
  simp only [Wc]
  split at this<;>rename_i hh<;>simp only [hh,if_true,if_false]<;>omega
theorem Wz {C:Ty→Int} (hC:∀ t,0≤C t):∀ (l:List Fld) (a n:Int),0≤a→0≤n→a+Wc C l n<1000→Wc C l (a+n)=a+Wc C l n
 | [],a,n,_,_,_=>rfl
 | x::l,a,n,h0,h1,h=>by
  have hx:=hC x.ty
  simp only [Wc] at h ⊢
  by_cases hh:n+C x.ty<1000
  ·rw [if_pos hh] at h ⊢
   have hg:=(Wy hC l (n+C x.ty) (by omega) (by omega)).1
   rw [if_pos (by omega),show a+n+C x.ty=a+(n+C x.ty) by omega]
   exact Wz hC l a _ h0 (by omega) h
  ·rw [if_neg hh] at h
   have hg:=(Wy hC l 1000 (by omega) (by omega)).1
   omega
theorem Wu (m:Mod) (t:Ty):0≤Va m t:=(Yt m t.kind t.name).1
theorem Up {m:Mod} (hm:Wb m=0):totF m m.outs≤32:=by
 have h:=((W5 m).1 hm).2.2.2.1
 rw [U7 (by decide)] at h
 unfold totB at h
 simp only [Bool.or_eq_false_iff,decide_eq_false_iff_not] at h
 omega
theorem Tq {m n:Mod} (hm:Wb m=0) (hn:Wb n=0) {k:Nat} {f:Fld} {r:List Fld} (ho:m.outs=f::r) (hf:f.ty=⟨7,[]⟩) (h:Wh (Wd m n k) r n.ins 0 = -1):totF n n.ins=totF m m.outs - 4:=by
 have h1:=Up hm
 have h4:Va m f.ty=4:=by rw [hf];unfold Va compF compG;rw [if_neg (by decide)];rfl
 rw [Uw hm hn h]
 rw [Ud,ho] at h1 ⊢
 simp only [Wc,h4] at h1 ⊢
 simp only [show (0:Int)+4<1000 by decide,if_true] at h1 ⊢
 have hs:=Wy (Wu m) r 0 (by omega) (by omega)
 by_cases hb:4+Wc (Va m) r 0<1000
 ·have:=Wz (Wu m) r 4 0 (by omega) (by omega) hb
  rw [show (0:Int)+4=4+0 by rfl] at h1 ⊢
  omega
 ·exfalso
  have:=sumC_mono (Wu m) r 0 4 (by omega) (by omega) (by omega)
  rw [show (0:Int)+4=4 by rfl] at h1
  omega
where
 sumC_mono {C:Ty→Int} (hC:∀ t,0≤C t):∀ (l:List Fld) (a b:Int),0≤a→a≤b→b≤1000→Wc C l a≤Wc C l b
  | [],a,b,_,h,_=>h
  | x::l,a,b,h0,h,h1=>by
   have hx:=hC x.ty
   simp only [Wc]
   exact sumC_mono hC l _ _ (by split<;>omega) (by (repeat' split)<;>omega) (by split<;>omega)
theorem To {m n:Mod} (hm:Wb m=0) (hn:Wb n=0) {k:Nat} {g:List Fld} (hg:g.map Fld.ty=(m.outs++m.outs++m.outs).map Fld.ty) (h:Wh (Wd m n k) g n.ins 0 = -1):totF n n.ins=3*totF m m.outs:=by
 have h1:=Up hm
 rw [Uw hm hn h,Un _ _ 0 hg,Vc,Vc]
 rw [Ud] at h1 ⊢
 have h0:=(Wy (Wu m) m.outs 0 (by omega) (by omega)).1
 have e1:=Wz (Wu m) m.outs (Wc (Va m) m.outs 0) 0 h0 (by omega) (by omega)
 rw [Int.add_zero] at e1
 have e2:=Wz (Wu m) m.outs (Wc (Va m) m.outs 0+Wc (Va m) m.outs 0) 0 (by omega) (by omega) (by omega)
 rw [Int.add_zero] at e2
 rw [e1,e2]
 omega
end
end Go.VI.S
