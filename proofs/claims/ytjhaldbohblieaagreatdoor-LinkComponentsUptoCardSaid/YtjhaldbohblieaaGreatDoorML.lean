/- Chapter 28: a checked module has few outputs. -/
import Derived.Test.YtjhaldbohblieaaGreatDoorMF
import Derived.Test.YtjhaldbohblieaaGreatDoorMA
import Derived.Test.YtjhaldbohblieaaGreatDoorVC
import Derived.Test.YtjhaldbohblieaaGreatDoorX28
set_option maxRecDepth 100000
set_option linter.unusedSimpArgs false
set_option linter.unusedVariables false
set_option linter.unusedSectionVars false
namespace Go.VI.S
open Go.VI
theorem call_pureP {f:Nat} {pf:PFn} {args:List PV} {r:PV} {c:PC} (hpf:E.pf f=some pf) (hp:pf.pure=true) (hb:pf.body=.cln (List.range args.length) c) (hn:args.length=pf.nparams) (hlow:PV.lowL 0 args=true)
    (hw:kQ E [.code c] (endP pf.results r) .norm { lvl:=0,tmps:=mk (args.length+(pf.ntmps - pf.nparams)) (enum 0 args),heap:=[List.replicate pf.nobjs none],defers:=[] }) (h:Heap) (he:pf.ext=none:=by rfl) :
    doCall E (callR E) f args h=some (r,h):=by
  have hw':kQ E [.code pf.body] (endP pf.results r) .norm { lvl:=0,tmps:=args++List.replicate (pf.ntmps - pf.nparams) (.tuple []),heap:=[]++[List.replicate pf.nobjs none],defers:=[] }:=by
    rw [hb,K_cln]
    simp only [start_eq]
    exact hw
  obtain ⟨ex,fr,h1,hex,hd,hres⟩:=Yl (wpE_of hw')
  obtain ⟨r0,hr0,hs⟩:=Option.bind_eq_some_iff.1 hres
  have hcall:Evt fun k=>callN E k f args []=some (r0,fr.heap):=by
    refine .succ ((h1.and (X4 (E:=E) fr.defers fr.heap (by rw [hd];rfl))).mono fun k hk=>?_)
    simp only [callN,hpf,he,hn,if_true,List.length_nil]
    rw [hk.1]
    cases ex with
    | exit id=>exact hex.elim
    | norm=>simp only [hk.2,hr0]
    | ret=>simp only [hk.2,hr0]
  have hpop:pop 0 r0 fr.heap=some (r,[]):=by
    unfold pop
    rw [hs]
    simp [heapLow]
  simp only [doCall,hpf,hp,if_true,hlow,callR_of hcall,hpop]
section
theorem Rg {m:Mod} (hm:Wb m=0):m.outs.length≤16:=by
 have h:=((W5 m).1 hm).1
 unfold limF at h
 split at h
 ·exact absurd h (by decide)
 ·rw [U7 (by decide),limB_0] at h
  have:=h.2.2.1
  unfold manyF at this
  omega
end
section
set_option maxHeartbeats 4000000 in
theorem T0 (m n:Mod) (a b:List Fld) {fa fb:Fl} (d:Int) (ha:a.length≤1048577) (hb:b.length≤1048577) (S:Ty→Ty→Bool) (hk:∀ t u:Ty,∀ h,doCall E (callR E) 48 [.agg m.c,.agg n.c,.agg [.int .i64 t.kind,.str t.name],.agg [.int .i64 u.kind,.str u.name],.int .i64 d] h=some (.bool (S t u),h)) (fin mn:Int) (hmn:mn=if (b.length:Int)<(a.length:Int) then (b.length:Int) else (a.length:Int)) {ks:List KI} {Q:PEx→Fr→Prop}
  (hr:∀ t,look t 10=.int .i64 fin→kQ E ks Q .ret { lvl:=0,tmps:=mk 60 t,heap:=[[]],defers:=[] })
  (hn:∀ t,fin=(if a.length=b.length then -1 else mn)→look t 2=.vs fa (flds a)→look t 3=.vs fb (flds b)→kQ E ks Q .norm { lvl:=0,tmps:=mk 60 t,heap:=[[]],defers:=[] }) :
  ∀ (ra pa rb pb:List Fld) (t:List (Nat × PV)),a=pa++ra→b=pb++rb→pa.length=pb.length→Wh S ra rb pa.length=fin →
   look t 2=.vs fa (flds a)→look t 3=.vs fb (flds b)→look t 4=.int .i64 d→look t 5=.ip m.c→look t 6=.ip n.c→look t 16=.int .i64 mn→look t 17=.int .i64 pa.length →
   kQ E (.code p31l0::.blk 0::ks) Q .norm { lvl:=0,tmps:=mk 60 t,heap:=[[]],defers:=[] }:=by
 intro ra
 have pu48:pureB E 48=true:=rfl
 have stop:∀ (ra pa rb pb:List Fld) (t:List (Nat × PV)),ra=[]∨rb=[]→a=pa++ra→b=pb++rb→pa.length=pb.length→Wh S ra rb pa.length=fin →
   look t 2=.vs fa (flds a)→look t 3=.vs fb (flds b)→look t 4=.int .i64 d→look t 5=.ip m.c→look t 6=.ip n.c→look t 16=.int .i64 mn→look t 17=.int .i64 pa.length →
   kQ E (.code p31l0::.blk 0::ks) Q .norm { lvl:=0,tmps:=mk 60 t,heap:=[[]],defers:=[] }:=by
  intro ra pa rb pb t hz h1 h2 hp hf k2 k3 k4 k5 k6 k16 k17
  have e1:a.length=pa.length+ra.length:=by rw [h1];simp
  have e2:b.length=pb.length+rb.length:=by rw [h2];simp
  have hm2:mn=pa.length:=by
   rcases hz with hz|hz<;>subst hz<;>simp at e1 e2<;>rw [hmn]<;>split<;>omega
  refine loopK' (c:=p31l0) rfl ?_
  repeat' first|(with_reducible first|refine cS ?_ ?_|refine oS ?_ ?_|refine dS ?_ ?_)<;>intro _|((with_reducible refine kk ?_ ?_);·rfl)|simp -implicitDefEqProofs(disch:=first|omega|assumption)only[push_cast,simprocAttr,Zd,Zc,Ze,Zb,k2,k3,k4,k5,k6,k16,k17,hm2]|(with_reducible first|refine cB ?_ ?_|refine oB ?_ ?_|refine dB ?_ ?_)<;>intro _
  refine hn _ ?_ (by simp [look,Za,k2]) (by simp [look,Za,k3])
  rw [← hf,hm2]
  cases ra with
  | nil=>cases rb with
   | nil=>rw [if_pos (by simp at e1 e2;omega)];rfl
   | cons y s=>rw [if_neg (by simp at e1 e2;omega)];rfl
  | cons x r=>cases rb with
   | nil=>rw [if_neg (by simp at e1 e2;omega)];rfl
   | cons y s=>simp at hz
 induction ra with
 | nil=>intro pa rb pb t;exact stop [] pa rb pb t (.inl rfl)
 | cons x r ih =>
  intro pa rb pb t h1 h2 hp hf k2 k3 k4 k5 k6 k16 k17
  cases rb with
  | nil=>exact stop (x::r) pa [] pb t (.inr rfl) h1 h2 hp hf k2 k3 k4 k5 k6 k16 k17
  | cons y s =>
   have e1:a.length=pa.length+r.length+1:=by rw [h1];simp;omega
   have e2:b.length=pb.length+s.length+1:=by rw [h2];simp;omega
   have hlt:(pa.length:Int)<mn:=by rw [hmn];split<;>omega
   have g1:(flds a)[pa.length]?=some (.agg [.str x.name,.int .i64 x.ty.kind,.str x.ty.name]):=by rw [h1];exact Yd _ _ _ _
   have g2:(flds b)[pa.length]?=some (.agg [.str y.name,.int .i64 y.ty.kind,.str y.ty.name]):=by rw [h2,hp];exact Yd _ _ _ _
   have hm:=m.hm
   have hm':=n.hm
   refine loopK' (c:=p31l0) rfl ?_
   by_cases hnm:x.name=y.name
   ·have pn:=eq_true hnm
    cases hty:S x.ty y.ty
    ·have pt:=hty
     repeat' first|(with_reducible first|refine cS ?_ ?_|refine oS ?_ ?_|refine dS ?_ ?_)<;>intro _|((with_reducible refine kk ?_ ?_);·rfl)|simp -implicitDefEqProofs(disch:=first|omega|assumption)only[push_cast,simprocAttr,Zd,Zc,Ze,Zb,k2,k3,k4,k5,k6,k16,k17,g1,g2,binS,Yu,hk,hm,hm',pn,pt]|(with_reducible first|refine cB ?_ ?_|refine oB ?_ ?_|refine dB ?_ ?_)<;>intro _
     exact hr _ (by rw [← hf];simp [look,Wh,hnm,hty])
    ·have pt:=hty
     repeat' first|(with_reducible first|refine cS ?_ ?_|refine oS ?_ ?_|refine dS ?_ ?_)<;>intro _|((with_reducible refine kk ?_ ?_);·rfl)|simp -implicitDefEqProofs(disch:=first|omega|assumption)only[push_cast,simprocAttr,Zd,Zc,Ze,Zb,k2,k3,k4,k5,k6,k16,k17,g1,g2,binS,Yu,hk,hm,hm',pn,pt]|(with_reducible first|refine cB ?_ ?_|refine oB ?_ ?_|refine dB ?_ ?_)<;>intro _
     refine ih (pa++[x]) s (pb++[y]) _ (by simp [h1]) (by simp [h2]) (by simp [hp]) (by rw [← hf];simp [Wh,hnm,hty]) (by simp [look,Za,k2]) (by simp [look,Za,k3]) (by simp [look,Za,k4]) (by simp [look,Za,k5]) (by simp [look,Za,k6]) (by simp [look,Za,k16]) (by simp [look,Za])
   ·have pn:=eq_false hnm
    repeat' first|(with_reducible first|refine cS ?_ ?_|refine oS ?_ ?_|refine dS ?_ ?_)<;>intro _|((with_reducible refine kk ?_ ?_);·rfl)|simp -implicitDefEqProofs(disch:=first|omega|assumption)only[push_cast,simprocAttr,Zd,Zc,Ze,Zb,k2,k3,k4,k5,k6,k16,k17,g1,g2,binS,Yu,hk,hm,hm',pn]|(with_reducible first|refine cB ?_ ?_|refine oB ?_ ?_|refine dB ?_ ?_)<;>intro _
    exact hr _ (by rw [← hf];simp [look,Wh,hnm])
theorem Tz (m n:Mod) (a b:List Fld) (fa fb:Fl) (d:Int) (ha:a.length≤1048577) (hb:b.length≤1048577) (S:Ty→Ty→Bool) (hk:∀ t u:Ty,∀ h,doCall E (callR E) 48 [.agg m.c,.agg n.c,.agg [.int .i64 t.kind,.str t.name],.agg [.int .i64 u.kind,.str u.name],.int .i64 d] h=some (.bool (S t u),h)) (h:Heap):doCall E (callR E) 31 [.agg m.c,.agg n.c,.vs fa (flds a),.vs fb (flds b),.int .i64 d] h=some (.int .i64 (Wh S a b 0),h):=by
 have h1:=m.hm
 have h2:=n.hm
 refine Zg (pf:=p31) rfl rfl rfl rfl (by simp [PV.lowL,PV.low,Zj,Zi,Zk,Zl,h1,h2]) (by simp [PV.low,PV.lowL,Zj,Zi,Zk,Zl,h1,h2]) ?_ h
 show kQ E _ (endQ [⟨10,none⟩] _) .norm { lvl:=0,tmps:=mk 60 [(0,.agg m.c),(1,.agg n.c),(2,.vs fa (flds a)),(3,.vs fb (flds b)),(4,.int .i64 d)],heap:=[[]],defers:=[] }
 repeat' first|(with_reducible first|refine cS ?_ ?_|refine oS ?_ ?_|refine dS ?_ ?_)<;>intro _|((with_reducible refine kk ?_ ?_);·rfl)|simp -implicitDefEqProofs(disch:=first|omega|assumption)only[push_cast,simprocAttr,Zd,Zc,Ze,Zb]|(with_reducible first|refine cB ?_ ?_|refine oB ?_ ?_|refine dB ?_ ?_)<;>intro _
 refine T0 m n a b (fa:=fa) (fb:=fb) d ha hb S hk (Wh S a b 0) _ rfl ?_ ?_ a [] b [] _ rfl rfl rfl rfl (by simp [look,Za]) (by simp [look,Za]) (by simp [look,Za]) (by simp [look,Za]) (by simp [look,Za]) (by simp [look,Za]) (by simp [look,Za])
 ·intro t h10
  repeat' first|(with_reducible first|refine cS ?_ ?_|refine oS ?_ ?_|refine dS ?_ ?_)<;>intro _|((with_reducible refine kk ?_ ?_);·rfl)|simp -implicitDefEqProofs(disch:=first|omega|assumption)only[push_cast,simprocAttr,Zd,Zc,Ze,Zb,h10]|(with_reducible first|refine cB ?_ ?_|refine oB ?_ ?_|refine dB ?_ ?_)<;>intro _
 ·intro t hf k2 k3
  by_cases hl:a.length=b.length
  ·rw [if_pos hl] at hf
   repeat' first|(with_reducible first|refine cS ?_ ?_|refine oS ?_ ?_|refine dS ?_ ?_)<;>intro _|((with_reducible refine kk ?_ ?_);·rfl)|simp -implicitDefEqProofs(disch:=first|omega|assumption)only[push_cast,simprocAttr,Zd,Zc,Ze,Zb,k2,k3,hl,hf]|(with_reducible first|refine cB ?_ ?_|refine oB ?_ ?_|refine dB ?_ ?_)<;>intro _
  ·rw [if_neg hl] at hf
   repeat' first|(with_reducible first|refine cS ?_ ?_|refine oS ?_ ?_|refine dS ?_ ?_)<;>intro _|((with_reducible refine kk ?_ ?_);·rfl)|simp -implicitDefEqProofs(disch:=first|omega|assumption)only[push_cast,simprocAttr,Zd,Zc,Ze,Zb,k2,k3,hf]|(with_reducible first|refine cB ?_ ?_|refine oB ?_ ?_|refine dB ?_ ?_)<;>intro _
set_option maxHeartbeats 4000000 in
theorem Te (m n:Mod) (hm:m.Ok) (hn:n.Ok):∀ (k:Nat) (t u:Ty) (d:Int),0≤d→d+k=m.ss.length+1→∀ h,doCall E (callR E) 48 [.agg m.c,.agg n.c,.agg [.int .i64 t.kind,.str t.name],.agg [.int .i64 u.kind,.str u.name],.int .i64 d] h=some (.bool (Wd m n k t u),h):=by
 intro k
 induction k with
 | zero =>
  intro t u d h0 hd h
  have h1:=m.hm
  have h2:=n.hm
  have q1:=fun h=>Yr m hm t.name h
  have q2:=fun h=>Yr n hn t.name h
  have hs:Wd m n 0 t u=(decide (t=u)&&decide (t.kind≠8)):=rfl
  rw [hs]
  have hss:=hm.ss
  refine Zg (pf:=p48) rfl rfl rfl rfl (by simp [PV.lowL,PV.low,Zj,Zi,Zk,Zl,h1,h2]) (by simp [PV.low,PV.lowL,Zj,Zi,Zk,Zl,h1,h2]) ?_ h
  show kQ E _ (endQ [⟨10,none⟩] _) .norm { lvl:=0,tmps:=mk 58 [(0,.agg m.c),(1,.agg n.c),(2,.agg [.int .i64 t.kind,.str t.name]),(3,.agg [.int .i64 u.kind,.str u.name]),(4,.int .i64 d)],heap:=[[]],defers:=[] }
  have pu46:pureB E 46=true:=rfl
  by_cases ht:t=u
  ·have pt:=eq_true ht
   by_cases h8:t.kind=8
   ·have hdd:d>m.ss.length:=by omega
    by_cases c1:stF m t.name<0
    ·repeat' first|(with_reducible first|refine cS ?_ ?_|refine oS ?_ ?_|refine dS ?_ ?_)<;>intro _|((with_reducible refine kk ?_ ?_);·rfl)|simp -implicitDefEqProofs(disch:=first|omega|assumption)only[push_cast,simprocAttr,Zb,Xu,Y8,pt,h8,q1,q2,c1,h1,h2]|(with_reducible first|refine cB ?_ ?_|refine oB ?_ ?_|refine dB ?_ ?_)<;>intro _
     all_goals simp [ht,h8]
    ·by_cases c2:stF n t.name<0
     ·repeat' first|(with_reducible first|refine cS ?_ ?_|refine oS ?_ ?_|refine dS ?_ ?_)<;>intro _|((with_reducible refine kk ?_ ?_);·rfl)|simp -implicitDefEqProofs(disch:=first|omega|assumption)only[push_cast,simprocAttr,Zb,Xu,Y8,pt,h8,q1,q2,c1,c2,h1,h2]|(with_reducible first|refine cB ?_ ?_|refine oB ?_ ?_|refine dB ?_ ?_)<;>intro _
      all_goals simp [ht,h8]
     ·repeat' first|(with_reducible first|refine cS ?_ ?_|refine oS ?_ ?_|refine dS ?_ ?_)<;>intro _|((with_reducible refine kk ?_ ?_);·rfl)|simp -implicitDefEqProofs(disch:=first|omega|assumption)only[push_cast,simprocAttr,Zb,Xu,Y8,pt,h8,q1,q2,c1,c2,hdd,h1,h2]|(with_reducible first|refine cB ?_ ?_|refine oB ?_ ?_|refine dB ?_ ?_)<;>intro _
      all_goals simp [ht,h8]
   ·repeat' first|(with_reducible first|refine cS ?_ ?_|refine oS ?_ ?_|refine dS ?_ ?_)<;>intro _|((with_reducible refine kk ?_ ?_);·rfl)|simp -implicitDefEqProofs(disch:=first|omega|assumption)only[push_cast,simprocAttr,Zb,Xu,Y8,pt,h8]|(with_reducible first|refine cB ?_ ?_|refine oB ?_ ?_|refine dB ?_ ?_)<;>intro _
    all_goals simp [ht,h8]
  ·have pt:=eq_false ht
   repeat' first|(with_reducible first|refine cS ?_ ?_|refine oS ?_ ?_|refine dS ?_ ?_)<;>intro _|((with_reducible refine kk ?_ ?_);·rfl)|simp -implicitDefEqProofs(disch:=first|omega|assumption)only[push_cast,simprocAttr,Zb,Xu,Y8,pt]|(with_reducible first|refine cB ?_ ?_|refine oB ?_ ?_|refine dB ?_ ?_)<;>intro _
   all_goals simp [ht]
 | succ k ih =>
  intro t u d h0 hd h
  have h1:=m.hm
  have h2:=n.hm
  have q1:=fun h=>Yr m hm t.name h
  have q2:=fun h=>Yr n hn t.name h
  have hs:Wd m n (k+1) t u=(decide (t=u)&&(decide (t.kind≠8)||(decide (0≤stF m t.name)&&(decide (0≤stF n t.name)&&decide (Wh (Wd m n k) (fldsAt m (stF m t.name)) (fldsAt n (stF n t.name)) 0 = -1))))):=rfl
  rw [hs]
  have hss:=hm.ss
  have b1:=stF_bd m t.name
  have b2:=stF_bd n t.name
  refine Zg (pf:=p48) rfl rfl rfl rfl (by simp [PV.lowL,PV.low,Zj,Zi,Zk,Zl,h1,h2]) (by simp [PV.low,PV.lowL,Zj,Zi,Zk,Zl,h1,h2]) ?_ h
  show kQ E _ (endQ [⟨10,none⟩] _) .norm { lvl:=0,tmps:=mk 58 [(0,.agg m.c),(1,.agg n.c),(2,.agg [.int .i64 t.kind,.str t.name]),(3,.agg [.int .i64 u.kind,.str u.name]),(4,.int .i64 d)],heap:=[[]],defers:=[] }
  have pu46:pureB E 46=true:=rfl
  by_cases ht:t=u
  ·have pt:=eq_true ht
   by_cases h8:t.kind=8
   ·have hdd:¬ d>m.ss.length:=by omega
    by_cases c1:stF m t.name<0
    ·repeat' first|(with_reducible first|refine cS ?_ ?_|refine oS ?_ ?_|refine dS ?_ ?_)<;>intro _|((with_reducible refine kk ?_ ?_);·rfl)|simp -implicitDefEqProofs(disch:=first|omega|assumption)only[push_cast,simprocAttr,Zb,Xu,Y8,pt,h8,q1,q2,c1,h1,h2]|(with_reducible first|refine cB ?_ ?_|refine oB ?_ ?_|refine dB ?_ ?_)<;>intro _
     all_goals simp [ht,h8]
     all_goals omega
    ·by_cases c2:stF n t.name<0
     ·repeat' first|(with_reducible first|refine cS ?_ ?_|refine oS ?_ ?_|refine dS ?_ ?_)<;>intro _|((with_reducible refine kk ?_ ?_);·rfl)|simp -implicitDefEqProofs(disch:=first|omega|assumption)only[push_cast,simprocAttr,Zb,Xu,Y8,pt,h8,q1,q2,c1,c2,h1,h2]|(with_reducible first|refine cB ?_ ?_|refine oB ?_ ?_|refine dB ?_ ?_)<;>intro _
      all_goals simp [ht,h8]
      all_goals omega
     ·obtain ⟨s1,m1,g1,e1⟩:=scts_get (m:=m) (j:=stF m t.name) (by omega) b1.2
      obtain ⟨s2,m2,g2,e2⟩:=scts_get (m:=n) (j:=stF n t.name) (by omega) b2.2
      have l1:=hm.sf s1 m1
      have l2:=hn.sf s2 m2
      have hq:=fun h=>Tz m n s1.fs s2.fs s1.fl s2.fl (d+1) (by omega) (by omega) (Wd m n k) (fun t u h=>ih t u (d+1) (by omega) (by push_cast at hd ⊢;omega) h) h
      have p1:(decide (0≤stF m t.name))=true:=decide_eq_true (by omega)
      have p2:(decide (0≤stF n t.name))=true:=decide_eq_true (by omega)
      have p3:decide (t=u)=true:=decide_eq_true ht
      have p4:decide (t.kind≠8)=false:=by simp [h8]
      rw [e1,e2,p1,p2,p3,p4]
      simp only [Bool.true_and,Bool.false_or]
      obtain ⟨z,hz⟩:∃ z,z=Wh (Wd m n k) s1.fs s2.fs 0:=⟨_,rfl⟩
      rw [← hz] at hq ⊢
      repeat' first|(with_reducible first|refine cS ?_ ?_|refine oS ?_ ?_|refine dS ?_ ?_)<;>intro _|((with_reducible refine kk ?_ ?_);·rfl)|simp -implicitDefEqProofs(disch:=first|omega|assumption)only[push_cast,simprocAttr,Zb,Xu,Y8,pt,h8,q1,q2,c1,c2,hdd,g1,g2,hq,b1,b2,h1,h2]|(with_reducible first|refine cB ?_ ?_|refine oB ?_ ?_|refine dB ?_ ?_)<;>intro _
      all_goals (rename_i hx;exact absurd (show (⟨8,t.name⟩:Ty)=u by rw [← h8,← ht]) hx)
   ·repeat' first|(with_reducible first|refine cS ?_ ?_|refine oS ?_ ?_|refine dS ?_ ?_)<;>intro _|((with_reducible refine kk ?_ ?_);·rfl)|simp -implicitDefEqProofs(disch:=first|omega|assumption)only[push_cast,simprocAttr,Zb,Xu,Y8,pt,h8]|(with_reducible first|refine cB ?_ ?_|refine oB ?_ ?_|refine dB ?_ ?_)<;>intro _
    all_goals simp [ht,h8]
  ·have pt:=eq_false ht
   repeat' first|(with_reducible first|refine cS ?_ ?_|refine oS ?_ ?_|refine dS ?_ ?_)<;>intro _|((with_reducible refine kk ?_ ?_);·rfl)|simp -implicitDefEqProofs(disch:=first|omega|assumption)only[push_cast,simprocAttr,Zb,Xu,Y8,pt]|(with_reducible first|refine cB ?_ ?_|refine oB ?_ ?_|refine dB ?_ ?_)<;>intro _
   all_goals simp [ht]
end
section
theorem U4 {l:List Fld} {n:Nat}:(flds l).drop n=flds (l.drop n):=by simp [flds,List.map_drop]
theorem Wt {l:List Fld}:(flds l).take l.length=flds l:=List.take_of_length_le (by simp [flds])
structure OutOk (m:Mod):Prop where
 len:m.outs.length≤1048576
 nm:∀ f∈m.outs,f.name.length≤1048576
def Uc (m:Mod):Fl:=if m.outs.length=0 then .nil else .any
theorem Ra (m:Mod) (hm:OutOk m) (h:Heap):doCall E (callR E) 18 [.agg m.c] h=some (.vs (Uc m) (flds (m.outs.drop 1)),h):=by
 have h1:=m.hm
 have h2:=hm.len
 refine call_pureP (pf:=p18) rfl rfl rfl rfl (by simp [PV.lowL,PV.low,Zj,Zi,Zk,Zl,h1]) ?_ h
 show kQ E _ (endP [⟨2,none⟩] _) .norm { lvl:=0,tmps:=mk 12 [(0,.agg m.c)],heap:=[[none]],defers:=[] }
 by_cases hz:m.outs.length=0
 ·have hn:m.outs=[]:=List.eq_nil_of_length_eq_zero hz
  repeat' first|(with_reducible first|refine cS ?_ ?_|refine oS ?_ ?_|refine dS ?_ ?_)<;>intro _|((with_reducible refine kk ?_ ?_);·rfl)|simp -implicitDefEqProofs(disch:=first|omega|assumption)only[push_cast,simprocAttr,Zd,Zc,Ze,Zb,Uc,hn,hz,endP_ret,snap_vs4,snap_sl4]|(with_reducible first|refine cB ?_ ?_|refine oB ?_ ?_|refine dB ?_ ?_)<;>intro _
  all_goals rfl
 ·have hd:(m.outs.drop 1).length=m.outs.length - 1:=by simp
  have h2':(flds m.outs).length=m.outs.length:=flds_len
  have ht:(flds (m.outs.drop 1)).take (m.outs.length - 1)=flds (m.outs.drop 1):=by rw [← hd];exact Wt
  repeat' first|(with_reducible first|refine cS ?_ ?_|refine oS ?_ ?_|refine dS ?_ ?_)<;>intro _|((with_reducible refine kk ?_ ?_);·rfl)|simp -implicitDefEqProofs(disch:=first|omega|assumption)only[push_cast,simprocAttr,Zd,Zc,Ze,Zb,Uc,hz,boundsE,bound,U4,flds_take,flds_head,hd,ht,List.take_of_length_le,List.isEmpty_nil,Option.isSome_none,Bool.false_eq_true,endP_ret,snap_vs4,snap_sl4]|(with_reducible first|refine cB ?_ ?_|refine oB ?_ ?_|refine dB ?_ ?_)<;>intro _
  all_goals first|rfl|omega
def Vo (d:Str) (f:Fld):Fld:=⟨f.name++d,f.ty⟩
theorem Ua {r:List Fld} {d:Str} {f:Fld}:flds r++[PV.agg [.str (f.name++d),.int .i64 f.ty.kind,.str f.ty.name]]=flds (r++[Vo d f]):=by simp [flds,Vo]
theorem Vh (m:Mod) (hm:OutOk m) {fo:Fl} (c:UInt8) (fin:List Fld) (hfin:fin.length≤3145728) {u8 u9:PV} {ks:List KI} {Q:PEx→Fr→Prop}
  (hn:∀ t g o1 o2 acc,acc=fin→look t 1=.ip m.c→look t 3=.sl (0,0) g 0 fin.length→look t 8=u8→look t 9=u9→kQ E ks Q .norm { lvl:=0,tmps:=mk 32 t,heap:=[[some (.mem (flds acc) g true 3),o1,o2]],defers:=[] }) :
  ∀ (rest pre:List Fld) (acc:List Fld) (g:Nat) (o1 o2:Option Ob) (t:List (Nat × PV)),m.outs=pre++rest→(acc++rest.map (Vo [c])=fin) →
   look t 1=.ip m.c→look t 3=.sl (0,0) g 0 acc.length→look t 5=.str [c]→look t 8=u8→look t 9=u9→look t 13=.vs m.of (flds m.outs)→look t 14=.int .i64 m.outs.length→look t 15=.int .i64 pre.length →
   kQ E (.code p17l1::.blk 2::ks) Q .norm { lvl:=0,tmps:=mk 32 t,heap:=[[some (.mem (flds acc) g true 3),o1,o2]],defers:=[] }:=by
 intro rest
 have h2:=hm.len
 induction rest with
 | nil =>
  intro pre acc g o1 o2 t hl hi0 h1 h3 h5 h8 h9 h13 h14 h15
  have e:m.outs.length=pre.length:=by rw [hl];simp
  refine loopK' (c:=p17l1) rfl ?_
  repeat' first|(with_reducible first|refine cS ?_ ?_|refine oS ?_ ?_|refine dS ?_ ?_)<;>intro _|((with_reducible refine kk ?_ ?_);·rfl)|simp -implicitDefEqProofs(disch:=first|omega|assumption)only[push_cast,simprocAttr,Zd,Zc,Ze,Zb,h1,h3,h5,h8,h9,h13,h14,h15,e,binS,Wt,Ua]|(with_reducible first|refine cB ?_ ?_|refine oB ?_ ?_|refine dB ?_ ?_)<;>intro _
  simp only [List.map_nil,List.append_nil] at hi0
  subst hi0
  exact hn _ _ _ _ _ rfl (by simp [look,Za,h1]) (by simp [look,Za,h3]) (by simp [look,Za,h8]) (by simp [look,Za,h9])
 | cons s r ih =>
  intro pre acc g o1 o2 t hl hi0 h1 h3 h5 h8 h9 h13 h14 h15
  have e:m.outs.length=pre.length+r.length+1:=by rw [hl];simp;omega
  have hg:(flds m.outs)[pre.length]?=some (.agg [.str s.name,.int .i64 s.ty.kind,.str s.ty.name]):=by rw [hl];exact Yd _ _ _ _
  have hnm:s.name.length≤1048576:=hm.nm s (by rw [hl];simp)
  have hal:acc.length≤3145728:=by rw [← hi0] at hfin;simp at hfin;omega
  refine loopK' (c:=p17l1) rfl ?_
  repeat' first|(with_reducible first|refine cS ?_ ?_|refine oS ?_ ?_|refine dS ?_ ?_)<;>intro _|((with_reducible refine kk ?_ ?_);·rfl)|simp -implicitDefEqProofs(disch:=first|omega|assumption)only[push_cast,simprocAttr,Zd,Zc,Ze,Zb,h1,h3,h5,h8,h9,h13,h14,h15,hg,binS,Wt,Ua]|(with_reducible first|refine cB ?_ ?_|refine oB ?_ ?_|refine dB ?_ ?_)<;>intro _
  refine ih (pre++[s]) (acc++[Vo [c] s]) _ _ _ _ (by simp [hl]) (by rw [← hi0];simp) (by simp [look,Za,h1]) (by simp [look,Za,h3]) (by simp [look,Za,h5]) (by simp [look,Za,h8]) (by simp [look,Za,h9]) (by simp [look,Za,h13]) (by simp [look,Za,h14]) (by simp [look,Za,h15])
def giF (m:Mod):List Fld:=m.outs.map (Vo [48])++m.outs.map (Vo [49])++m.outs.map (Vo [50])
theorem Us {m:Mod}:(giF m).length=3*m.outs.length:=by simp [giF];omega
theorem gi_ok (m:Mod) (hm:OutOk m) (h:Heap):doCall E (callR E) 17 [.agg m.c] h=some (.vs .any (flds (giF m)),h):=by
 have h1:=m.hm
 have h2:=hm.len
 refine Zg (pf:=p17) rfl rfl rfl rfl (by simp [PV.lowL,PV.low,Zj,Zi,Zk,Zl,h1]) (by simp [PV.low,PV.lowL,Zj,Zi,Zk,Zl,h1]) ?_ h
 show kQ E _ (endQ [⟨2,none⟩] _) .norm { lvl:=0,tmps:=mk 32 [(0,.agg m.c)],heap:=[[none,none,none]],defers:=[] }
 repeat' first|(with_reducible first|refine cS ?_ ?_|refine oS ?_ ?_|refine dS ?_ ?_)<;>intro _|((with_reducible refine kk ?_ ?_);·rfl)|simp -implicitDefEqProofs(disch:=first|omega|assumption)only[push_cast,simprocAttr,Zd,Zc,Ze,Zb]|(with_reducible first|refine cB ?_ ?_|refine oB ?_ ?_|refine dB ?_ ?_)<;>intro _
 refine loopK' (c:=p17l0) rfl ?_
 repeat' first|(with_reducible first|refine cS ?_ ?_|refine oS ?_ ?_|refine dS ?_ ?_)<;>intro _|((with_reducible refine kk ?_ ?_);·rfl)|simp -implicitDefEqProofs(disch:=first|omega|assumption)only[push_cast,simprocAttr,Zd,Zc,Ze,Zb]|(with_reducible first|refine cB ?_ ?_|refine oB ?_ ?_|refine dB ?_ ?_)<;>intro _
 refine Vh m hm (fo:=.any) 48 (m.outs.map (Vo [48])) (by simp;omega) (u8:=.agg [.str [48],.str [49],.str [50]]) (u9:=.int .i64 0) ?_ m.outs [] [] _ _ _ _ rfl rfl (by simp [look,Za]) (by simp [look,Za]) (by simp [look,Za]) (by simp [look,Za]) (by simp [look,Za]) (by simp [look,Za]) (by simp [look,Za]) (by simp [look,Za])
 intro t1 g1 a1 b1 acc1 he e1 e3 e8 e9
 subst he
 repeat' first|(with_reducible first|refine cS ?_ ?_|refine oS ?_ ?_|refine dS ?_ ?_)<;>intro _|((with_reducible refine kk ?_ ?_);·rfl)|simp -implicitDefEqProofs(disch:=first|omega|assumption)only[push_cast,simprocAttr,Zd,Zc,Ze,Zb,e1,e3,e8,e9]|(with_reducible first|refine cB ?_ ?_|refine oB ?_ ?_|refine dB ?_ ?_)<;>intro _
 refine loopK' (c:=p17l0) rfl ?_
 repeat' first|(with_reducible first|refine cS ?_ ?_|refine oS ?_ ?_|refine dS ?_ ?_)<;>intro _|((with_reducible refine kk ?_ ?_);·rfl)|simp -implicitDefEqProofs(disch:=first|omega|assumption)only[push_cast,simprocAttr,Zd,Zc,Ze,Zb,e1,e3,e8,e9]|(with_reducible first|refine cB ?_ ?_|refine oB ?_ ?_|refine dB ?_ ?_)<;>intro _
 refine Vh m hm (fo:=.any) 49 (m.outs.map (Vo [48])++m.outs.map (Vo [49])) (by simp;omega) (u8:=.agg [.str [48],.str [49],.str [50]]) (u9:=.int .i64 1) ?_ m.outs [] _ _ _ _ _ rfl rfl (by simp [look,Za, *]) (by simp [look,Za, *]) (by simp [look,Za, *]) (by simp [look,Za, *]) (by simp [look,Za, *]) (by simp [look,Za, *]) (by simp [look,Za, *]) (by simp [look,Za, *])
 intro t2 g2 a2 b2 acc2 he e1 e3 e8 e9
 subst he
 repeat' first|(with_reducible first|refine cS ?_ ?_|refine oS ?_ ?_|refine dS ?_ ?_)<;>intro _|((with_reducible refine kk ?_ ?_);·rfl)|simp -implicitDefEqProofs(disch:=first|omega|assumption)only[push_cast,simprocAttr,Zd,Zc,Ze,Zb,e1,e3,e8,e9]|(with_reducible first|refine cB ?_ ?_|refine oB ?_ ?_|refine dB ?_ ?_)<;>intro _
 refine loopK' (c:=p17l0) rfl ?_
 repeat' first|(with_reducible first|refine cS ?_ ?_|refine oS ?_ ?_|refine dS ?_ ?_)<;>intro _|((with_reducible refine kk ?_ ?_);·rfl)|simp -implicitDefEqProofs(disch:=first|omega|assumption)only[push_cast,simprocAttr,Zd,Zc,Ze,Zb,e1,e3,e8,e9]|(with_reducible first|refine cB ?_ ?_|refine oB ?_ ?_|refine dB ?_ ?_)<;>intro _
 refine Vh m hm (fo:=.any) 50 (giF m) (by rw [Us];omega) (u8:=.agg [.str [48],.str [49],.str [50]]) (u9:=.int .i64 2) ?_ m.outs [] _ _ _ _ _ rfl rfl (by simp [look,Za, *]) (by simp [look,Za, *]) (by simp [look,Za, *]) (by simp [look,Za, *]) (by simp [look,Za, *]) (by simp [look,Za, *]) (by simp [look,Za, *]) (by simp [look,Za, *])
 intro t3 g3 a3 b3 acc3 he e1 e3 e8 e9
 subst he
 repeat' first|(with_reducible first|refine cS ?_ ?_|refine oS ?_ ?_|refine dS ?_ ?_)<;>intro _|((with_reducible refine kk ?_ ?_);·rfl)|simp -implicitDefEqProofs(disch:=first|omega|assumption)only[push_cast,simprocAttr,Zd,Zc,Ze,Zb,e1,e3,e8,e9]|(with_reducible first|refine cB ?_ ?_|refine oB ?_ ?_|refine dB ?_ ?_)<;>intro _
 refine loopK' (c:=p17l0) rfl ?_
 repeat' first|(with_reducible first|refine cS ?_ ?_|refine oS ?_ ?_|refine dS ?_ ?_)<;>intro _|((with_reducible refine kk ?_ ?_);·rfl)|simp -implicitDefEqProofs(disch:=first|omega|assumption)only[push_cast,simprocAttr,Zd,Zc,Ze,Zb,e1,e3,e8,e9,Wt]|(with_reducible first|refine cB ?_ ?_|refine oB ?_ ?_|refine dB ?_ ?_)<;>intro _
end
section
def Vy (p c:Int):Bool:=if p=1 then decide (c=2)||decide (c=3) else if p=2 then decide (c=3) else false
theorem ord_ok (p c:Int) (h:Heap):doCall E (callR E) 21 [.int .i64 p,.int .i64 c] h=some (.bool (Vy p c),h):=by
 refine Zg (pf:=p21) rfl rfl rfl rfl (by simp [PV.lowL,PV.low]) (by simp [PV.low,PV.lowL]) ?_ h
 show kQ E _ (endQ [⟨4,none⟩] _) .norm { lvl:=0,tmps:=mk 18 [(0,.int .i64 p),(1,.int .i64 c)],heap:=[[]],defers:=[] }
 by_cases p1:p=1
 ·by_cases c2:c=2
  ·repeat' first|(with_reducible first|refine cS ?_ ?_|refine oS ?_ ?_|refine dS ?_ ?_)<;>intro _|((with_reducible refine kk ?_ ?_);·rfl)|simp -implicitDefEqProofs(disch:=first|omega|assumption)only[push_cast,simprocAttr,Zd,Zc,Ze,Zb,p1,c2]|(with_reducible first|refine cB ?_ ?_|refine oB ?_ ?_|refine dB ?_ ?_)<;>intro _
   all_goals simp [Vy,p1,c2]
  ·by_cases c3:c=3
   ·repeat' first|(with_reducible first|refine cS ?_ ?_|refine oS ?_ ?_|refine dS ?_ ?_)<;>intro _|((with_reducible refine kk ?_ ?_);·rfl)|simp -implicitDefEqProofs(disch:=first|omega|assumption)only[push_cast,simprocAttr,Zd,Zc,Ze,Zb,p1,c2,c3]|(with_reducible first|refine cB ?_ ?_|refine oB ?_ ?_|refine dB ?_ ?_)<;>intro _
    all_goals simp [Vy,p1,c2,c3]
   ·repeat' first|(with_reducible first|refine cS ?_ ?_|refine oS ?_ ?_|refine dS ?_ ?_)<;>intro _|((with_reducible refine kk ?_ ?_);·rfl)|simp -implicitDefEqProofs(disch:=first|omega|assumption)only[push_cast,simprocAttr,Zd,Zc,Ze,Zb,p1,c2,c3]|(with_reducible first|refine cB ?_ ?_|refine oB ?_ ?_|refine dB ?_ ?_)<;>intro _
    all_goals simp [Vy,p1,c2,c3]
 ·by_cases p2:p=2
  ·by_cases c3:c=3
   ·repeat' first|(with_reducible first|refine cS ?_ ?_|refine oS ?_ ?_|refine dS ?_ ?_)<;>intro _|((with_reducible refine kk ?_ ?_);·rfl)|simp -implicitDefEqProofs(disch:=first|omega|assumption)only[push_cast,simprocAttr,Zd,Zc,Ze,Zb,p1,p2,c3]|(with_reducible first|refine cB ?_ ?_|refine oB ?_ ?_|refine dB ?_ ?_)<;>intro _
    all_goals simp [Vy,p1,p2,c3]
   ·repeat' first|(with_reducible first|refine cS ?_ ?_|refine oS ?_ ?_|refine dS ?_ ?_)<;>intro _|((with_reducible refine kk ?_ ?_);·rfl)|simp -implicitDefEqProofs(disch:=first|omega|assumption)only[push_cast,simprocAttr,Zd,Zc,Ze,Zb,p1,p2,c3]|(with_reducible first|refine cB ?_ ?_|refine oB ?_ ?_|refine dB ?_ ?_)<;>intro _
    all_goals simp [Vy,p1,p2,c3]
  ·repeat' first|(with_reducible first|refine cS ?_ ?_|refine oS ?_ ?_|refine dS ?_ ?_)<;>intro _|((with_reducible refine kk ?_ ?_);·rfl)|simp -implicitDefEqProofs(disch:=first|omega|assumption)only[push_cast,simprocAttr,Zd,Zc,Ze,Zb,p1,p2]|(with_reducible first|refine cB ?_ ?_|refine oB ?_ ?_|refine dB ?_ ?_)<;>intro _
   all_goals simp [Vy,p1,p2]
def v4F (m:Mod):Bool:=match m.outs with
 | []=>false
 | f::_=>decide (f.ty=⟨7,[]⟩)
theorem Rp (m:Mod) (hm:m.Ok) (h:Heap):doCall E (callR E) 22 [.agg m.c] h=some (.bool (v4F m),h):=by
 have h1:=m.hm
 have ho:=hm.outs
 refine Zg (pf:=p22) rfl rfl rfl rfl (by simp [PV.lowL,PV.low,Zj,Zi,Zk,Zl,h1]) (by simp [PV.low,PV.lowL,Zj,Zi,Zk,Zl,h1]) ?_ h
 show kQ E _ (endQ [⟨2,none⟩] _) .norm { lvl:=0,tmps:=mk 16 [(0,.agg m.c)],heap:=[[]],defers:=[] }
 by_cases hz:m.outs.length>0
 ·obtain ⟨f,r,hl⟩:∃ f r,m.outs=f::r:=by
   cases hl:m.outs with
   | nil=>rw [hl] at hz;simp at hz
   | cons f r=>exact ⟨f,r,rfl⟩
  have e:v4F m=decide (f.ty=⟨7,[]⟩):=by unfold v4F;rw [hl]
  rw [e]
  have g:(flds m.outs)[0]?=some (.agg [.str f.name,.int .i64 f.ty.kind,.str f.ty.name]):=by rw [hl];rfl
  have hp:(0:Int)<(m.outs.length:Int):=by omega
  have hp2:0<m.outs.length:=hz
  by_cases ht:f.ty=⟨7,[]⟩
  ·have pt:=eq_true ht
   have pt2:decide (f.ty=⟨7,[]⟩)=true:=decide_eq_true ht
   repeat' first|(with_reducible first|refine cS ?_ ?_|refine oS ?_ ?_|refine dS ?_ ?_)<;>intro _|((with_reducible refine kk ?_ ?_);·rfl)|simp -implicitDefEqProofs(disch:=first|omega|assumption)only[push_cast,simprocAttr,Zb,Xu,Y8,g,hz,hp,hp2,pt2,pt]|(with_reducible first|refine cB ?_ ?_|refine oB ?_ ?_|refine dB ?_ ?_)<;>intro _
   all_goals trace_state
  ·have pt:=eq_false ht
   have pt2:decide (f.ty=⟨7,[]⟩)=false:=decide_eq_false ht
   repeat' first|(with_reducible first|refine cS ?_ ?_|refine oS ?_ ?_|refine dS ?_ ?_)<;>intro _|((with_reducible refine kk ?_ ?_);·rfl)|simp -implicitDefEqProofs(disch:=first|omega|assumption)only[push_cast,simprocAttr,Zb,Xu,Y8,g,hz,hp,hp2,pt2,pt]|(with_reducible first|refine cB ?_ ?_|refine oB ?_ ?_|refine dB ?_ ?_)<;>intro _
   all_goals trace_state
 ·have hl:m.outs=[]:=List.eq_nil_of_length_eq_zero (by omega)
  have e:v4F m=false:=by unfold v4F;rw [hl]
  rw [e]
  repeat' first|(with_reducible first|refine cS ?_ ?_|refine oS ?_ ?_|refine dS ?_ ?_)<;>intro _|((with_reducible refine kk ?_ ?_);·rfl)|simp -implicitDefEqProofs(disch:=first|omega|assumption)only[push_cast,simprocAttr,Zd,Zc,Ze,Zb,hz]|(with_reducible first|refine cB ?_ ?_|refine oB ?_ ?_|refine dB ?_ ?_)<;>intro _
theorem ef_gen (m n:Mod) (hm:m.Ok) (hn:n.Ok) (a b:List Fld) (fa fb:Fl) (ha:a.length≤1048577) (hb:b.length≤1048577) (h:Heap):doCall E (callR E) 16 [.agg m.c,.agg n.c,.vs fa (flds a),.vs fb (flds b)] h=some (.int .i64 (Wh (Wd m n (m.ss.length+1)) a b 0),h):=by
 have h1:=m.hm
 have h2:=n.hm
 have hq:=fun h=>Tz m n a b fa fb 0 ha hb (Wd m n (m.ss.length+1)) (fun t u h=>Te m n hm hn (m.ss.length+1) t u 0 (by omega) (by omega) h) h
 obtain ⟨z,hz⟩:∃ z,z=Wh (Wd m n (m.ss.length+1)) a b 0:=⟨_,rfl⟩
 rw [← hz] at hq ⊢
 refine Zg (pf:=p16) rfl rfl rfl rfl (by simp [PV.lowL,PV.low,Zj,Zi,Zk,Zl,h1,h2]) (by simp [PV.low,PV.lowL,Zj,Zi,Zk,Zl,h1,h2]) ?_ h
 show kQ E _ (endQ [⟨8,none⟩] _) .norm { lvl:=0,tmps:=mk 14 [(0,.agg m.c),(1,.agg n.c),(2,.vs fa (flds a)),(3,.vs fb (flds b))],heap:=[[]],defers:=[] }
 repeat' first|(with_reducible first|refine cS ?_ ?_|refine oS ?_ ?_|refine dS ?_ ?_)<;>intro _|((with_reducible refine kk ?_ ?_);·rfl)|simp -implicitDefEqProofs(disch:=first|omega|assumption)only[push_cast,simprocAttr,Zd,Zc,Ze,Zb,hq,h1,h2]|(with_reducible first|refine cB ?_ ?_|refine oB ?_ ?_|refine dB ?_ ?_)<;>intro _
end
section
def LinkOk (m n:Mod):Prop:=Wb m=0∧Wb n=0∧v4F m=true∧(n.stage=3∧Wh (Wd m n (m.ss.length+1)) (m.outs.drop 1) n.ins 0 = -1∨n.stage=2∧Wh (Wd m n (m.ss.length+1)) (giF m) n.ins 0 = -1)
set_option maxHeartbeats 8000000 in
theorem Rh (m n:Mod) (hm:m.Ok) (hn:n.Ok) (hz:m.OkZ) (hz':n.OkZ) (hf:W6 m) (hf':W6 n) (hoo:OutOk m) :
  ∃ i e:Int,(e=0→i = -1∧LinkOk m n)∧∀ h,doCall E (callR E) 10 [.agg m.c,.agg n.c] h=some (.tuple [.int .i64 i,.int .i64 e],h):=by
 have h1:=m.hm
 have h2:=n.hm
 have qa:=fun h=>V6 m hm hz hf h
 have qb:=fun h=>V6 n hn hz' hf' h
 have qo:=fun p c h=>ord_ok p c h
 have qv:=fun h=>Rp m hm h
 have qw:=fun h=>Rp n hn h
 have qy:=fun h=>Ra m hoo h
 have qg:=fun h=>gi_ok m hoo h
 by_cases ca:Wb m=0
 ·by_cases cb:Wb n=0
  ·cases co:Vy m.stage n.stage
   ·refine ⟨-1,10,fun h=>absurd h (by decide),fun h=>?_⟩
    refine Zg (pf:=p10) rfl rfl rfl rfl (by simp [PV.lowL,PV.low,Zj,Zi,Zk,Zl,h1,h2]) (by simp [PV.low,PV.lowL,Zj,Zi,Zk,Zl,h1,h2]) ?_ h
    show kQ E _ (endQ [⟨4,none⟩,⟨5,none⟩] _) .norm { lvl:=0,tmps:=mk 61 [(0,.agg m.c),(1,.agg n.c)],heap:=[[]],defers:=[] }
    repeat' first|(with_reducible first|refine cS ?_ ?_|refine oS ?_ ?_|refine dS ?_ ?_)<;>intro _|((with_reducible refine kk ?_ ?_);·rfl)|simp -implicitDefEqProofs(disch:=first|omega|assumption)only[push_cast,simprocAttr,Zd,Zc,Ze,Zb,qa,qb,qo,ca,cb,co,h1,h2]|(with_reducible first|refine cB ?_ ?_|refine oB ?_ ?_|refine dB ?_ ?_)<;>intro _
   ·cases cv:v4F m
    ·refine ⟨-1,18,fun h=>absurd h (by decide),fun h=>?_⟩
     refine Zg (pf:=p10) rfl rfl rfl rfl (by simp [PV.lowL,PV.low,Zj,Zi,Zk,Zl,h1,h2]) (by simp [PV.low,PV.lowL,Zj,Zi,Zk,Zl,h1,h2]) ?_ h
     show kQ E _ (endQ [⟨4,none⟩,⟨5,none⟩] _) .norm { lvl:=0,tmps:=mk 61 [(0,.agg m.c),(1,.agg n.c)],heap:=[[]],defers:=[] }
     repeat' first|(with_reducible first|refine cS ?_ ?_|refine oS ?_ ?_|refine dS ?_ ?_)<;>intro _|((with_reducible refine kk ?_ ?_);·rfl)|simp -implicitDefEqProofs(disch:=first|omega|assumption)only[push_cast,simprocAttr,Zd,Zc,Ze,Zb,qa,qb,qo,qv,ca,cb,co,cv,h1,h2]|(with_reducible first|refine cB ?_ ?_|refine oB ?_ ?_|refine dB ?_ ?_)<;>intro _
    ·obtain ⟨f,r,hl⟩:∃ f r,m.outs=f::r:=by
      unfold v4F at cv
      cases hl:m.outs with
      | nil=>rw [hl] at cv;cases cv
      | cons f r=>exact ⟨f,r,rfl⟩
     have g:(flds m.outs)[0]?=some (.agg [.str f.name,.int .i64 f.ty.kind,.str f.ty.name]):=by rw [hl];rfl
     have hlen:m.outs.length=r.length+1:=by rw [hl];rfl
     have hp2:0<m.outs.length:=by omega
     have h16:=Rg ca
     by_cases cn:f.name=[112,111,115,105,116,105,111,110]
     ·have pn:=eq_true cn
      have qe:=fun fa a (ha:a.length≤1048577) h=>ef_gen m n hm hn a n.ins fa n.nf ha (Nat.le_trans hn.ins (by omega)) h
      have b1:(m.outs.drop 1).length≤1048577:=by rw [List.length_drop];omega
      have b2:(giF m).length≤1048577:=by rw [Us];omega
      by_cases c3:n.stage=3
      ·have p3:=eq_true c3
       cases cw:v4F n
       ·refine ⟨-1,18,fun h=>absurd h (by decide),fun h=>?_⟩
        refine Zg (pf:=p10) rfl rfl rfl rfl (by simp [PV.lowL,PV.low,Zj,Zi,Zk,Zl,h1,h2]) (by simp [PV.low,PV.lowL,Zj,Zi,Zk,Zl,h1,h2]) ?_ h
        show kQ E _ (endQ [⟨4,none⟩,⟨5,none⟩] _) .norm { lvl:=0,tmps:=mk 61 [(0,.agg m.c),(1,.agg n.c)],heap:=[[]],defers:=[] }
        repeat' first|(with_reducible first|refine cS ?_ ?_|refine oS ?_ ?_|refine dS ?_ ?_)<;>intro _|((with_reducible refine kk ?_ ?_);·rfl)|simp -implicitDefEqProofs(disch:=first|omega|assumption)only[push_cast,simprocAttr,Zd,Zc,Ze,Zb,qa,qb,qo,qv,qw,ca,cb,co,cv,cw,g,hp2,binS,Yu,pn,p3,h1,h2]|(with_reducible first|refine cB ?_ ?_|refine oB ?_ ?_|refine dB ?_ ?_)<;>intro _
       ·have qd:=fun fa h=>qe fa (m.outs.drop 1) b1 h
        obtain ⟨z,hzz⟩:∃ z,z=Wh (Wd m n (m.ss.length+1)) (m.outs.drop 1) n.ins 0:=⟨_,rfl⟩
        rw [← hzz] at qd
        by_cases cz:z = -1
        ·refine ⟨-1,0,fun _=>⟨rfl,ca,cb,cv,.inl ⟨c3,by rw [← hzz,cz]⟩⟩,fun h=>?_⟩
         refine Zg (pf:=p10) rfl rfl rfl rfl (by simp [PV.lowL,PV.low,Zj,Zi,Zk,Zl,h1,h2]) (by simp [PV.low,PV.lowL,Zj,Zi,Zk,Zl,h1,h2]) ?_ h
         show kQ E _ (endQ [⟨4,none⟩,⟨5,none⟩] _) .norm { lvl:=0,tmps:=mk 61 [(0,.agg m.c),(1,.agg n.c)],heap:=[[]],defers:=[] }
         repeat' first|(with_reducible first|refine cS ?_ ?_|refine oS ?_ ?_|refine dS ?_ ?_)<;>intro _|((with_reducible refine kk ?_ ?_);·rfl)|simp -implicitDefEqProofs(disch:=first|omega|assumption)only[push_cast,simprocAttr,Zd,Zc,Ze,Zb,qa,qb,qo,qv,qw,qy,qg,qd,ca,cb,co,cv,cw,cz,g,hp2,binS,Yu,pn,p3,h1,h2]|(with_reducible first|refine cB ?_ ?_|refine oB ?_ ?_|refine dB ?_ ?_)<;>intro _
        ·refine ⟨z,18,fun h=>absurd h (by decide),fun h=>?_⟩
         refine Zg (pf:=p10) rfl rfl rfl rfl (by simp [PV.lowL,PV.low,Zj,Zi,Zk,Zl,h1,h2]) (by simp [PV.low,PV.lowL,Zj,Zi,Zk,Zl,h1,h2]) ?_ h
         show kQ E _ (endQ [⟨4,none⟩,⟨5,none⟩] _) .norm { lvl:=0,tmps:=mk 61 [(0,.agg m.c),(1,.agg n.c)],heap:=[[]],defers:=[] }
         repeat' first|(with_reducible first|refine cS ?_ ?_|refine oS ?_ ?_|refine dS ?_ ?_)<;>intro _|((with_reducible refine kk ?_ ?_);·rfl)|simp -implicitDefEqProofs(disch:=first|omega|assumption)only[push_cast,simprocAttr,Zd,Zc,Ze,Zb,qa,qb,qo,qv,qw,qy,qg,qd,ca,cb,co,cv,cw,cz,g,hp2,binS,Yu,pn,p3,h1,h2]|(with_reducible first|refine cB ?_ ?_|refine oB ?_ ?_|refine dB ?_ ?_)<;>intro _
      ·have p3:=eq_false c3
       have c2:n.stage=2:=by
        unfold Vy at co
        split at co
        ·simp only [Bool.or_eq_true,decide_eq_true_eq] at co;omega
        ·split at co
         ·simp only [decide_eq_true_eq] at co;omega
         ·cases co
       have qd:=fun fa h=>qe fa (giF m) b2 h
       obtain ⟨z,hzz⟩:∃ z,z=Wh (Wd m n (m.ss.length+1)) (giF m) n.ins 0:=⟨_,rfl⟩
       rw [← hzz] at qd
       by_cases cz:z = -1
       ·refine ⟨-1,0,fun _=>⟨rfl,ca,cb,cv,.inr ⟨c2,by rw [← hzz,cz]⟩⟩,fun h=>?_⟩
        refine Zg (pf:=p10) rfl rfl rfl rfl (by simp [PV.lowL,PV.low,Zj,Zi,Zk,Zl,h1,h2]) (by simp [PV.low,PV.lowL,Zj,Zi,Zk,Zl,h1,h2]) ?_ h
        show kQ E _ (endQ [⟨4,none⟩,⟨5,none⟩] _) .norm { lvl:=0,tmps:=mk 61 [(0,.agg m.c),(1,.agg n.c)],heap:=[[]],defers:=[] }
        repeat' first|(with_reducible first|refine cS ?_ ?_|refine oS ?_ ?_|refine dS ?_ ?_)<;>intro _|((with_reducible refine kk ?_ ?_);·rfl)|simp -implicitDefEqProofs(disch:=first|omega|assumption)only[push_cast,simprocAttr,Zd,Zc,Ze,Zb,qa,qb,qo,qv,qw,qy,qg,qd,ca,cb,co,cv,cz,g,hp2,binS,Yu,pn,p3,c3,h1,h2]|(with_reducible first|refine cB ?_ ?_|refine oB ?_ ?_|refine dB ?_ ?_)<;>intro _
       ·refine ⟨z,18,fun h=>absurd h (by decide),fun h=>?_⟩
        refine Zg (pf:=p10) rfl rfl rfl rfl (by simp [PV.lowL,PV.low,Zj,Zi,Zk,Zl,h1,h2]) (by simp [PV.low,PV.lowL,Zj,Zi,Zk,Zl,h1,h2]) ?_ h
        show kQ E _ (endQ [⟨4,none⟩,⟨5,none⟩] _) .norm { lvl:=0,tmps:=mk 61 [(0,.agg m.c),(1,.agg n.c)],heap:=[[]],defers:=[] }
        repeat' first|(with_reducible first|refine cS ?_ ?_|refine oS ?_ ?_|refine dS ?_ ?_)<;>intro _|((with_reducible refine kk ?_ ?_);·rfl)|simp -implicitDefEqProofs(disch:=first|omega|assumption)only[push_cast,simprocAttr,Zd,Zc,Ze,Zb,qa,qb,qo,qv,qw,qy,qg,qd,ca,cb,co,cv,cz,g,hp2,binS,Yu,pn,p3,c3,h1,h2]|(with_reducible first|refine cB ?_ ?_|refine oB ?_ ?_|refine dB ?_ ?_)<;>intro _
     ·have pn:=eq_false cn
      refine ⟨-1,18,fun h=>absurd h (by decide),fun h=>?_⟩
      refine Zg (pf:=p10) rfl rfl rfl rfl (by simp [PV.lowL,PV.low,Zj,Zi,Zk,Zl,h1,h2]) (by simp [PV.low,PV.lowL,Zj,Zi,Zk,Zl,h1,h2]) ?_ h
      show kQ E _ (endQ [⟨4,none⟩,⟨5,none⟩] _) .norm { lvl:=0,tmps:=mk 61 [(0,.agg m.c),(1,.agg n.c)],heap:=[[]],defers:=[] }
      repeat' first|(with_reducible first|refine cS ?_ ?_|refine oS ?_ ?_|refine dS ?_ ?_)<;>intro _|((with_reducible refine kk ?_ ?_);·rfl)|simp -implicitDefEqProofs(disch:=first|omega|assumption)only[push_cast,simprocAttr,Zd,Zc,Ze,Zb,qa,qb,qo,qv,ca,cb,co,cv,g,hp2,binS,Yu,pn,h1,h2]|(with_reducible first|refine cB ?_ ?_|refine oB ?_ ?_|refine dB ?_ ?_)<;>intro _
  ·refine ⟨-1,17,fun h=>absurd h (by decide),fun h=>?_⟩
   refine Zg (pf:=p10) rfl rfl rfl rfl (by simp [PV.lowL,PV.low,Zj,Zi,Zk,Zl,h1,h2]) (by simp [PV.low,PV.lowL,Zj,Zi,Zk,Zl,h1,h2]) ?_ h
   show kQ E _ (endQ [⟨4,none⟩,⟨5,none⟩] _) .norm { lvl:=0,tmps:=mk 61 [(0,.agg m.c),(1,.agg n.c)],heap:=[[]],defers:=[] }
   repeat' first|(with_reducible first|refine cS ?_ ?_|refine oS ?_ ?_|refine dS ?_ ?_)<;>intro _|((with_reducible refine kk ?_ ?_);·rfl)|simp -implicitDefEqProofs(disch:=first|omega|assumption)only[push_cast,simprocAttr,Zd,Zc,Ze,Zb,qa,qb,ca,cb,h1,h2]|(with_reducible first|refine cB ?_ ?_|refine oB ?_ ?_|refine dB ?_ ?_)<;>intro _
 ·refine ⟨-1,17,fun h=>absurd h (by decide),fun h=>?_⟩
  refine Zg (pf:=p10) rfl rfl rfl rfl (by simp [PV.lowL,PV.low,Zj,Zi,Zk,Zl,h1,h2]) (by simp [PV.low,PV.lowL,Zj,Zi,Zk,Zl,h1,h2]) ?_ h
  show kQ E _ (endQ [⟨4,none⟩,⟨5,none⟩] _) .norm { lvl:=0,tmps:=mk 61 [(0,.agg m.c),(1,.agg n.c)],heap:=[[]],defers:=[] }
  repeat' first|(with_reducible first|refine cS ?_ ?_|refine oS ?_ ?_|refine dS ?_ ?_)<;>intro _|((with_reducible refine kk ?_ ?_);·rfl)|simp -implicitDefEqProofs(disch:=first|omega|assumption)only[push_cast,simprocAttr,Zd,Zc,Ze,Zb,qa,ca,h1,h2]|(with_reducible first|refine cB ?_ ?_|refine oB ?_ ?_|refine dB ?_ ?_)<;>intro _
end
section
theorem gi_ty {m:Mod}:(giF m).map Fld.ty=(m.outs++m.outs++m.outs).map Fld.ty:=by
 unfold giF
 simp only [List.map_append,List.map_map]
 rfl
set_option maxHeartbeats 8000000 in
theorem law5 (m n:Mod) (hm:m.Ok) (hn:n.Ok) (hz:m.OkZ) (hz':n.OkZ) (hf:W6 m) (hf':W6 n) (hoo:OutOk m) (h:Heap):doCall E (callR E) 5 [.agg (m.c++n.c)] h=some (.bool true,h):=by
 have h1:=m.hm
 have h2:=n.hm
 obtain ⟨i,e,hL,hq⟩:=Rh m n hm hn hz hz' hf hf' hoo
 have qt:=fun h=>total_ok m hm m.of m.outs hm.outs h
 have qu:=fun h=>total_ok n hn n.nf n.ins hn.ins h
 rw [show m.c++n.c=[.int .i64 m.stage,.vs m.sf (scts m.ss),.vs m.uf (flds m.us),.vs m.tf (strs m.ts),.vs m.bf (strs m.bs),.vs m.nf (flds m.ins),.vs m.of (flds m.outs),.vs m.ff (funs m.fs),.vs m.mf m.main,.int .i64 n.stage,.vs n.sf (scts n.ss),.vs n.uf (flds n.us),.vs n.tf (strs n.ts),.vs n.bf (strs n.bs),.vs n.nf (flds n.ins),.vs n.of (flds n.outs),.vs n.ff (funs n.fs),.vs n.mf n.main] from rfl]
 refine Zg (pf:=p5) rfl rfl rfl rfl (by simp [PV.lowL,PV.low,Zj,Zi,Zk,Zl,h1,h2]) (by simp [PV.low,PV.lowL,Zj,Zi,Zk,Zl,h1,h2]) ?_ h
 show kQ E _ (endQ [⟨2,none⟩] _) .norm { lvl:=0,tmps:=mk 60 [(0,.agg [.int .i64 m.stage,.vs m.sf (scts m.ss),.vs m.uf (flds m.us),.vs m.tf (strs m.ts),.vs m.bf (strs m.bs),.vs m.nf (flds m.ins),.vs m.of (flds m.outs),.vs m.ff (funs m.fs),.vs m.mf m.main,.int .i64 n.stage,.vs n.sf (scts n.ss),.vs n.uf (flds n.us),.vs n.tf (strs n.ts),.vs n.bf (strs n.bs),.vs n.nf (flds n.ins),.vs n.of (flds n.outs),.vs n.ff (funs n.fs),.vs n.mf n.main])],heap:=[[none,none]],defers:=[] }
 have pu15:pureB E 15=true:=rfl
 by_cases he:e=0
 ·obtain ⟨hi,ca,cb,cv,hc⟩:=hL he
  obtain ⟨x,hx⟩:∃ x,x=totF m m.outs:=⟨_,rfl⟩
  obtain ⟨y,hy⟩:∃ y,y=totF n n.ins:=⟨_,rfl⟩
  have hbd:0≤x∧x≤1000:=by rw [hx];exact sumG_bd (sizF_small m) m.outs 0 (by omega) (by omega)
  rcases hc with ⟨c3,hd⟩|⟨c2,hd⟩
  ·have p3:=eq_true c3
   have hxy:y=x - 4:=by
    unfold v4F at cv
    cases ho:m.outs with
    | nil=>rw [ho] at cv;cases cv
    | cons f r =>
     rw [ho] at cv hd
     rw [hx,hy]
     exact Tq ca cb ho (of_decide_eq_true cv) hd
   rw [← hx] at qt
   rw [← hy,hxy] at qu
   repeat' first|(with_reducible first|refine cS ?_ ?_|refine oS ?_ ?_|refine dS ?_ ?_)<;>intro _|((with_reducible refine kk ?_ ?_);·rfl)|simp -implicitDefEqProofs(disch:=first|omega|assumption)only[push_cast,simprocAttr,Zd,Zc,Ze,Zb,hq,qt,qu,he,hi,p3,hbd,ex_ok,h1,h2,Yv,Yq,Yp,Yo,Yh,Yx,Yi,stabG,stabS,Z1,Yb,Z0,Zt,Zy,Z9,Ya,Zz,Zu,Zp]|(with_reducible first|refine cB ?_ ?_|refine oB ?_ ?_|refine dB ?_ ?_)<;>intro _|with_reducible first|refine Z2 ?_ ?_|refine Z3 (by decide) ?_|refine Z4 (by decide) ?_ ?_|exact Z5|refine Zx ?_|refine Zq ?_
   all_goals trace_state
  ·have p2:=eq_true c2
   have p3:(n.stage=3)=False:=eq_false (by omega)
   have hxy:y=3*x:=by
    rw [hx,hy]
    exact To ca cb gi_ty hd
   rw [← hx] at qt
   rw [← hy,hxy] at qu
   repeat' first|(with_reducible first|refine cS ?_ ?_|refine oS ?_ ?_|refine dS ?_ ?_)<;>intro _|((with_reducible refine kk ?_ ?_);·rfl)|simp -implicitDefEqProofs(disch:=first|omega|assumption)only[push_cast,simprocAttr,Zd,Zc,Ze,Zb,hq,qt,qu,he,hi,p2,p3,hbd,ex_ok,h1,h2,Yv,Yq,Yp,Yo,Yh,Yx,Yi,stabG,stabS,Z1,Yb,Z0,Zt,Zy,Z9,Ya,Zz,Zu,Zp]|(with_reducible first|refine cB ?_ ?_|refine oB ?_ ?_|refine dB ?_ ?_)<;>intro _|with_reducible first|refine Z2 ?_ ?_|refine Z3 (by decide) ?_|refine Z4 (by decide) ?_ ?_|exact Z5|refine Zx ?_|refine Zq ?_
   all_goals trace_state
 ·repeat' first|(with_reducible first|refine cS ?_ ?_|refine oS ?_ ?_|refine dS ?_ ?_)<;>intro _|((with_reducible refine kk ?_ ?_);·rfl)|simp -implicitDefEqProofs(disch:=first|omega|assumption)only[push_cast,simprocAttr,Zd,Zc,Ze,Zb,hq,he,ex_ok,h1,h2,Yv,Yq,Yp,Yo,Yh,Yx,Yi,stabG,stabS,Z1,Yb,Z0,Zt,Zy,Z9,Ya,Zz,Zu,Zp]|(with_reducible first|refine cB ?_ ?_|refine oB ?_ ?_|refine dB ?_ ?_)<;>intro _|with_reducible first|refine Z2 ?_ ?_|refine Z3 (by decide) ?_|refine Z4 (by decide) ?_ ?_|exact Z5|refine Zx ?_|refine Zq ?_
  all_goals trace_state
end
end Go.VI.S
