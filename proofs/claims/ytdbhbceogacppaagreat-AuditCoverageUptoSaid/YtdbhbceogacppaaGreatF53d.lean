/- Chapter 53: differences of varyings, the inputs of a pixel. -/
import Derived.Test.YtdbhbceogacppaaGreatF53c
set_option maxRecDepth 100000
set_option linter.unusedSimpArgs false
set_option linter.unusedVariables false
namespace Go.VI.S
open Go.VI
theorem res_one {h:Heap} {T:List PV} {r:RV} {v:PV} (hr:rvE h T r=some v):resultsE h T [r]=some v:=by simp [resultsE,mapO,hr]
theorem ap_lo {h:Heap} {L:List (Option Ob)} {n:Nm} (hn:n.1<h.length):hget (h++[L]) n=hget h n:=by simp [hget,List.getElem?_append_left hn]
set_option maxHeartbeats 4000000 in
theorem mns_loop (A B:List Int) (hz:A.length≤1048576) (hAB:B.length=A.length) (h:Heap) {n1 n2:Nm} (l1:n1.1<h.length) (l2:n2.1<h.length) (g1:hget h n1=some (.mem (ints A) 1 true 1)) (g2:hget h n2=some (.mem (ints B) 1 true 1)) {ks:List KI} {Q:PEx→Fr→Prop}
    (hn:∀ t (el:List Int),el.length=A.length→look t 5=.sl (h.length,0) 1 0 A.length→kQ E ks Q .norm { lvl:=h.length,tmps:=mk 29 t,heap:=h++[[some (.mem (ints el) 1 true 1)]],defers:=[] }) :
    ∀ (rest pre:List Int) (el:List Int) (t:List (Nat × PV)),A=pre++rest→(el.length=A.length) →
      look t 0=.sl n1 1 0 A.length→look t 1=.sl n2 1 0 A.length→look t 5=.sl (h.length,0) 1 0 A.length→look t 11=.int .i64 A.length→look t 12=.int .i64 pre.length →
      kQ E (.code p58l0::.blk 0::ks) Q .norm { lvl:=h.length,tmps:=mk 29 t,heap:=h++[[some (.mem (ints el) 1 true 1)]],defers:=[] }:=by
  intro rest
  have q1:∀ L,hget (h++[L]) n1=some (.mem (ints A) 1 true 1):=fun L=>by rw [ap_lo l1,g1]
  have q2:∀ L,hget (h++[L]) n2=some (.mem (ints B) 1 true 1):=fun L=>by rw [ap_lo l2,g2]
  induction rest with
  | nil =>
    intro pre el t hl hi0 h0 h1 h5 h11 h12
    have e:A.length=pre.length:=by rw [hl];simp
    refine loopK' (c:=p58l0) rfl ?_
    repeat' first|(with_reducible first|refine cS ?_ ?_|refine oS ?_ ?_|refine dS ?_ ?_)<;>intro _|((with_reducible refine kk ?_ ?_);·rfl)|simp -implicitDefEqProofs(disch:=first|omega|assumption)only[push_cast,simprocAttr,Zf,Ze,Zi,Zg,h0,h1,h5,h11,h12,e,Yf]|(with_reducible first|refine cB ?_ ?_|refine oB ?_ ?_|refine dB ?_ ?_)<;>intro _
    exact hn _ _ hi0 (by simp [look,Za,h5])
  | cons s r ih =>
    intro pre el t hl hi0 h0 h1 h5 h11 h12
    have e:A.length=pre.length+r.length+1:=by rw [hl];simp;omega
    have hg:(ints A)[pre.length]?=some (.int .i64 s):=by rw [hl];simp [ints]
    have hb:pre.length<el.length:=by omega
    have hge:=ints_at hb
    have hlt:pre.length<A.length:=by omega
    have hgb:=ints_at (show pre.length<B.length by omega)
    refine loopK' (c:=p58l0) rfl ?_
    repeat' first|(with_reducible first|refine cS ?_ ?_|refine oS ?_ ?_|refine dS ?_ ?_)<;>intro _|((with_reducible refine kk ?_ ?_);·rfl)|simp -implicitDefEqProofs(disch:=first|omega|assumption)only[push_cast,simprocAttr,Zf,Ze,Zi,Zg,h0,h1,h5,h11,h12,hg,hgb,Yf,ap_get,ap_set,q1,q2,sub_ok,hge,ints_set,Int.ofNat_lt,hi0,hlt,stabG,stabS,Zv,Z5,Zu,Zp,Zs,Z3,Z4,Zt,Zq,Zn]|(with_reducible first|refine cB ?_ ?_|refine oB ?_ ?_|refine dB ?_ ?_)<;>intro _|with_reducible first|refine Zw ?_ ?_|refine Zx (by decide) ?_|refine Zy (by decide) ?_ ?_|exact Zz|refine Zr ?_|refine Zo ?_
    refine ih (pre++[s]) (el.set pre.length _) _ (by simp [hl]) (by simp [hi0]) (by simp [look,Za,h0]) (by simp [look,Za,h1]) (by simp [look,Za,h5]) (by simp [look,Za,h11]) (by simp [look,Za,h12])
theorem mns_ok (A B:List Int) (hz:A.length≤1048576) (hAB:B.length=A.length) (h:Heap) {n1 n2:Nm} (l1:n1.1<h.length) (l2:n2.1<h.length) (g1:hget h n1=some (.mem (ints A) 1 true 1)) (g2:hget h n2=some (.mem (ints B) 1 true 1)):∃ L:List Int,L.length=A.length∧doCall E (callR E) 58 [.sl n1 1 0 A.length,.sl n2 1 0 A.length] h=some (.sl (h.length,0) 1 0 A.length,h++[[some (.mem (ints L) 1 true 1)]]):=by
  have q1:∀ L,hget (h++[L]) n1=some (.mem (ints A) 1 true 1):=fun L=>by rw [ap_lo l1,g1]
  obtain ⟨rr,H,hd,L,h1,rfl,rfl⟩:∃ rr H,doCall E (callR E) 58 [.sl n1 1 0 A.length,.sl n2 1 0 A.length] h=some (rr,H)∧∃ (L:List Int),L.length=A.length∧rr=.sl (h.length,0) 1 0 A.length∧H=h++[[some (.mem (ints L) 1 true 1)]]:=by
    refine call_keep (pf:=p58) rfl rfl rfl rfl rfl ?_
    show kQ E _ (endK [⟨4,none⟩] _) .norm { lvl:=h.length,tmps:=mk 29 [(0,.sl n1 1 0 A.length),(1,.sl n2 1 0 A.length)],heap:=h++[[none]],defers:=[] }
    repeat' first|(with_reducible first|refine cS ?_ ?_|refine oS ?_ ?_|refine dS ?_ ?_)<;>intro _|((with_reducible refine kk ?_ ?_);·rfl)|simp -implicitDefEqProofs(disch:=first|omega|assumption)only[push_cast,simprocAttr,Zf,Ze,Zi,Zg,q1,ap_len,ap_get,ap_set,ap_gd,ints_rep]|(with_reducible first|refine cB ?_ ?_|refine oB ?_ ?_|refine dB ?_ ?_)<;>intro _
    refine mns_loop A B hz hAB h l1 l2 g1 g2 ?_ A [] _ _ rfl (by simp) (by simp [look,Za]) (by simp [look,Za]) (by simp [look,Za]) (by simp [look,Za]) (by simp [look,Za])
    intro t' el h1 h5
    repeat' first|(with_reducible first|refine cS ?_ ?_|refine oS ?_ ?_|refine dS ?_ ?_)<;>intro _|((with_reducible refine kk ?_ ?_);·rfl)|simp -implicitDefEqProofs(disch:=first|omega|assumption)only[push_cast,simprocAttr,Zf,Ze,Zi,Zg,h5]|(with_reducible first|refine cB ?_ ?_|refine oB ?_ ?_|refine dB ?_ ?_)<;>intro _
    exact endK_ret (by simp [resultsE,mapO,rvE,h5];rfl) ⟨el,h1,rfl,rfl⟩
  exact ⟨L,h1,hd⟩
theorem at_ok (t:Tri) (hv:vaF t=true) (hl:t.a.l.length≤1048576) (x y:Int) (h:Heap):∃ (o0:Option Ob) (L:List Int),L.length=t.a.l.length∧doCall E (callR E) 37 [.agg t.c,.int .i64 x,.int .i64 y] h=some (.sl (h.length+1,1) 1 0 t.a.l.length,h++[[],[o0,some (.mem (ints L) 1 true 1)]]):=by
  obtain ⟨o0,L,h1,hd⟩:=val_ok t hv hl (IntKind.i64.wrap (IntKind.i64.wrap (x*256)+128)) (IntKind.i64.wrap (IntKind.i64.wrap (y*256)+128)) (h++[[]])
  rw [ap_len] at hd
  obtain ⟨rr,H,hd,rfl,rfl⟩:∃ rr H,doCall E (callR E) 37 [.agg t.c,.int .i64 x,.int .i64 y] h=some (rr,H)∧rr=.sl (h.length+1,1) 1 0 t.a.l.length∧H=(h++[[]])++[[o0,some (.mem (ints L) 1 true 1)]]:=by
    refine call_keep (pf:=p37) rfl rfl rfl rfl rfl ?_
    show kQ E _ (endK [⟨6,none⟩] _) .norm { lvl:=h.length,tmps:=mk 15 [(0,.agg t.c),(1,.int .i64 x),(2,.int .i64 y)],heap:=h++[[]],defers:=[] }
    repeat' first|(with_reducible first|refine cS ?_ ?_|refine oS ?_ ?_|refine dS ?_ ?_)<;>intro _|((with_reducible refine kk ?_ ?_);·rfl)|simp -implicitDefEqProofs(disch:=first|omega|assumption)only[push_cast,simprocAttr,Zf,Ze,Zi,Zg,hd]|(with_reducible first|refine cB ?_ ?_|refine oB ?_ ?_|refine dB ?_ ?_)<;>intro _
    exact endK_ret (res_one rfl) ⟨rfl,rfl⟩
  exact ⟨o0,L,h1,by rw [hd];simp⟩
theorem der_ok (t:Tri) (hv:vaF t=true) (hl:t.a.l.length≤1048576) (x y:Int):∃ A B:List Int,A.length=t.a.l.length∧B.length=t.a.l.length∧∀ h,doCall E (callR E) 38 [.agg t.c,.int .i64 x,.int .i64 y] h=some (.tuple [.vs .any (ints A),.vs .any (ints B)],h):=by
  obtain ⟨o1,L1,e1,d1⟩:=at_ok t hv hl (claF x 0 62) (claF y 0 62) [[]]
  obtain ⟨o2,L2,e2,d2⟩:=at_ok t hv hl (IntKind.i64.wrap (claF x 0 62+1)) (claF y 0 62) [[],[],[o1,some (.mem (ints L1) 1 true 1)]]
  obtain ⟨A,e3,d3⟩:=mns_ok L2 L1 (by omega) (by omega) [[],[],[o1,some (.mem (ints L1) 1 true 1)],[],[o2,some (.mem (ints L2) 1 true 1)]] (n1:=(4,1)) (n2:=(2,1)) (by simp) (by simp) rfl rfl
  obtain ⟨o4,L4,e4,d4⟩:=at_ok t hv hl (claF x 0 62) (IntKind.i64.wrap (claF y 0 62+1)) [[],[],[o1,some (.mem (ints L1) 1 true 1)],[],[o2,some (.mem (ints L2) 1 true 1)],[some (.mem (ints A) 1 true 1)]]
  obtain ⟨B,e5,d5⟩:=mns_ok L4 L1 (by omega) (by omega) [[],[],[o1,some (.mem (ints L1) 1 true 1)],[],[o2,some (.mem (ints L2) 1 true 1)],[some (.mem (ints A) 1 true 1)],[],[o4,some (.mem (ints L4) 1 true 1)]] (n1:=(7,1)) (n2:=(2,1)) (by simp) (by simp) rfl rfl
  refine ⟨A,B,by omega,by omega,fun h=>?_⟩
  rw [e2] at d3
  rw [e4] at d5
  simp only [List.length_cons,List.length_nil,List.cons_append,List.nil_append,Nat.reduceAdd] at d1 d2 d3 d4 d5
  refine call_pureP (pf:=p38) rfl rfl rfl rfl (by simp [PV.lowL,PV.low]) ?_ h
  show kQ E _ (endP [⟨6,none⟩,⟨7,none⟩] _) .norm { lvl:=0,tmps:=mk 33 [(0,.agg t.c),(1,.int .i64 x),(2,.int .i64 y)],heap:=[[]],defers:=[] }
  repeat' first|(with_reducible first|refine cS ?_ ?_|refine oS ?_ ?_|refine dS ?_ ?_)<;>intro _|((with_reducible refine kk ?_ ?_);·rfl)|simp -implicitDefEqProofs(disch:=first|omega|assumption)only[push_cast,simprocAttr,Zf,Ze,Zi,Zg,cla_ok,d1,d2,d3,d4,d5,stabG,stabS,Zv,Z5,Zu,Zp,Zs,Z3,Z4,Zt,Zq,Zn]|(with_reducible first|refine cB ?_ ?_|refine oB ?_ ?_|refine dB ?_ ?_)<;>intro _|with_reducible first|refine Zw ?_ ?_|refine Zx (by decide) ?_|refine Zy (by decide) ?_ ?_|exact Zz|refine Zr ?_|refine Zo ?_
  have z1:=Yf (l:=A)
  have z2:=Yf (l:=B)
  rw [endP_ret]
  have hm:∀ l:List (Nat × PV),(mk 33 l).getD 6 .junk=look l 6∧(mk 33 l).getD 7 .junk=look l 7:=fun l=>⟨by rw [mk_get];rfl,by rw [mk_get];rfl⟩
  simp [-List.getD_eq_getElem?_getD,resultsE,mapO,rvE,hm,look,snap,PV.low,PV.lowL,hget,z1,z2,e2,e3,e4,e5]
  exact ⟨List.take_of_length_le (by omega),List.take_of_length_le (by omega)⟩
theorem inp_ok (t:Tri) (hv:vaF t=true) (hl:t.a.l.length≤1048576) (x y:Int):∃ A:List Int,∀ h,doCall E (callR E) 22 [.agg t.c,.int .i64 x,.int .i64 y] h=some (.vs .any (ints A),h):=by
  obtain ⟨o1,L1,e1,d1⟩:=at_ok t hv hl (claF x 0 63) (claF y 0 63) [[none,none]]
  obtain ⟨A,B,eA,eB,d2⟩:=der_ok t hv hl x y
  have z0:=Yf (l:=L1)
  have z1:=Yf (l:=A)
  have z2:=Yf (l:=B)
  refine ⟨L1++A++B,fun h=>?_⟩
  simp only [List.length_cons,List.length_nil,List.cons_append,List.nil_append,Nat.reduceAdd] at d1
  refine call_pureP (pf:=p22) rfl rfl rfl rfl (by simp [PV.lowL,PV.low]) ?_ h
  show kQ E _ (endP [⟨6,none⟩] _) .norm { lvl:=0,tmps:=mk 29 [(0,.agg t.c),(1,.int .i64 x),(2,.int .i64 y)],heap:=[[none,none]],defers:=[] }
  have hm:∀ l:List (Nat × PV),(mk 29 l).getD 6 .junk=look l 6:=fun l=>by rw [mk_get];rfl
  have hs:∀ l:List Int,headSz 1 (ints l)=true:=fun l=>by cases l<;>rfl
  by_cases h0:t.a.l.length=0
  · have i1:L1=[]:=List.eq_nil_of_length_eq_zero (by omega)
    have i2:A=[]:=List.eq_nil_of_length_eq_zero (by omega)
    have i3:B=[]:=List.eq_nil_of_length_eq_zero (by omega)
    subst i1 i2 i3
    rw [h0] at d1
    have hi:ints []=[]:=rfl
    repeat' first|(with_reducible first|refine cS ?_ ?_|refine oS ?_ ?_|refine dS ?_ ?_)<;>intro _|((with_reducible refine kk ?_ ?_);·rfl)|simp -implicitDefEqProofs(disch:=first|omega|assumption)only[push_cast,simprocAttr,Zf,Ze,Zi,Zg,cla_ok,d1,d2,hs,hi,hget_ss,hget_00,hset_ss,hset_00,z0,z1,z2,stabG,stabS,Zv,Z5,Zu,Zp,Zs,Z3,Z4,Zt,Zq,Zn]|(with_reducible first|refine cB ?_ ?_|refine oB ?_ ?_|refine dB ?_ ?_)<;>intro _|with_reducible first|refine Zw ?_ ?_|refine Zx (by decide) ?_|refine Zy (by decide) ?_ ?_|exact Zz|refine Zr ?_|refine Zo ?_
    rw [endP_ret]
    simp [-List.getD_eq_getElem?_getD,resultsE,mapO,rvE,hm,look,snap,PV.low,PV.lowL,hget,ints]
  have ht:(ints L1).take t.a.l.length=ints L1:=List.take_of_length_le (by omega)
  repeat' first|(with_reducible first|refine cS ?_ ?_|refine oS ?_ ?_|refine dS ?_ ?_)<;>intro _|((with_reducible refine kk ?_ ?_);·rfl)|simp -implicitDefEqProofs(disch:=first|omega|assumption)only[push_cast,simprocAttr,Zf,Ze,Zi,Zg,cla_ok,d1,d2,hs,hget_ss,hget_00,hset_ss,hset_00,z0,z1,z2,e1,eA,eB,List.length_append,ht,stabG,stabS,Zv,Z5,Zu,Zp,Zs,Z3,Z4,Zt,Zq,Zn]|(with_reducible first|refine cB ?_ ?_|refine oB ?_ ?_|refine dB ?_ ?_)<;>intro _|with_reducible first|refine Zw ?_ ?_|refine Zx (by decide) ?_|refine Zy (by decide) ?_ ?_|exact Zz|refine Zr ?_|refine Zo ?_
  rw [endP_ret]
  simp [-List.getD_eq_getElem?_getD,resultsE,mapO,rvE,hm,look,snap,PV.low,PV.lowL,hget,z0,z1,z2,e1,eA,eB]
  rw [List.take_of_length_le (l:=ints L1++ints A) (by simp only [List.length_append];omega),List.take_of_length_le (by simp only [List.length_append];omega)]
  simp [ints]
end Go.VI.S
