/- Chapter 28: nodes of a module, depths of expressions and statements. -/
import Derived.Test.YtjhaldbohblieaaGreatDoorMB
set_option maxRecDepth 100000
set_option linter.unusedSimpArgs false
set_option linter.unusedVariables false
set_option linter.unusedSectionVars false
namespace Go.VI.S
open Go.VI
section
def funZ:List Fun'→Nat
  | []=>0
  | f::r=>(szS f.bodyS+f.retE.size)+funZ r
theorem funZ_mem {f:Fun'}:∀ {l:List Fun'},f∈l→szS f.bodyS+f.retE.size≤funZ l
  | [],h=>by cases h
  | x::l,h=>by
    rcases List.mem_cons.1 h with rfl|h
    · simp [funZ]
    · have:=funZ_mem h;simp [funZ];omega
structure Mod.OkZ (m:Mod):Prop where
  tot:szS m.mainS+funZ m.fs≤1048576
def nnFs:List Fun'→Int
  | []=>0
  | f::r=>(nnS f.bodyS+f.retE.nn)+nnFs r
def nodesF (m:Mod):Int:=nnS m.mainS+nnFs m.fs
set_option maxHeartbeats 2000000 in
theorem nod_loop (m:Mod) (hm:m.Ok) (hz:m.OkZ) (fin:Int) {ks:List KI} {Q:PEx→Fr→Prop}
    (hn:∀ t o0,look t 3=.int .i64 fin→kQ E ks Q .norm { lvl:=0,tmps:=mk 27 t,heap:=[[o0]],defers:=[] }) :
    ∀ (rest pre:List Fun') (n:Int) (o0:Option Ob) (t:List (Nat × PV)),m.fs=pre++rest→(n+nnFs rest=fin)→(0≤n)→(n+funZ rest≤4294967296) →
      look t 3=.int .i64 n→look t 10=.vs m.ff (funs m.fs)→look t 11=.int .i64 m.fs.length→look t 12=.int .i64 pre.length →
      kQ E (.code p49l0::.blk 0::ks) Q .norm { lvl:=0,tmps:=mk 27 t,heap:=[[o0]],defers:=[] }:=by
  intro rest
  have hss:=hm.fs
  have pu79:pureB E 79=true:=rfl
  have pu80:pureB E 80=true:=rfl
  induction rest with
  | nil =>
    intro pre n o0 t hl hi0 hi1 hi2 h3 h10 h11 h12
    have e:m.fs.length=pre.length:=by rw [hl];simp
    refine loopK' (c:=p49l0) rfl ?_
    repeat' first|(with_reducible first|refine cS ?_ ?_|refine oS ?_ ?_|refine dS ?_ ?_)<;>intro _|((with_reducible refine kk ?_ ?_);·rfl)|simp -implicitDefEqProofs(disch:=first|omega|assumption)only[push_cast,simprocAttr,Zd,Zc,Ze,Zb,h3,h10,h11,h12,e]|(with_reducible first|refine cB ?_ ?_|refine oB ?_ ?_|refine dB ?_ ?_)<;>intro _
    exact hn _ _ (by rw [← hi0,nnFs];simp [look,Za,h3])
  | cons s r ih =>
    intro pre n o0 t hl hi0 hi1 hi2 h3 h10 h11 h12
    have e:m.fs.length=pre.length+r.length+1:=by rw [hl];simp;omega
    have hg:(funs m.fs)[pre.length]?=some (.agg [.str s.name,.vs s.fl (flds s.ps),.int .i64 s.res.kind,.str s.res.name,.vs s.fb (sts s.bodyS),.int .i64 s.retE.kind,.int .i64 s.retE.op,.str s.retE.name,.int .i64 s.retE.value,.vs s.retE.fl (exs s.retE.args)]):=by rw [hl,← s.v10];exact Yd _ _ _ _
    have hmz:=Nat.le_trans (funZ_mem (f:=s) (l:=m.fs) (by rw [hl];simp)) (Nat.le_trans (Nat.le_add_left _ _) hz.tot)
    have q1:=fun f h=>nod_ok _ s.bodyS (Nat.le_refl _) (by omega) f h
    have q2:=fun h=>enn_ok _ s.retE (Nat.le_refl _) (by omega) h
    rw [s.retE.c_eq] at q2
    have b1:=nnS_bd s.bodyS
    have b2:=s.retE.nn_bd
    simp only [funZ] at hi2
    refine loopK' (c:=p49l0) rfl ?_
    repeat' first|(with_reducible first|refine cS ?_ ?_|refine oS ?_ ?_|refine dS ?_ ?_)<;>intro _|((with_reducible refine kk ?_ ?_);·rfl)|simp -implicitDefEqProofs(disch:=first|omega|assumption)only[push_cast,simprocAttr,Zd,Zc,Ze,Zb,h3,h10,h11,h12,hg,q1,q2,Yn]|(with_reducible first|refine cB ?_ ?_|refine oB ?_ ?_|refine dB ?_ ?_)<;>intro _
    refine ih (pre++[s]) (n+(nnS s.bodyS+s.retE.nn)) _ _ (by simp [hl]) (by rw [← hi0,nnFs];omega) (by omega) (by omega) (by simp [look,Za]) (by simp [look,Za,h10]) (by simp [look,Za,h11]) (by simp [look,Za])
theorem nodes_ok (m:Mod) (hm:m.Ok) (hz:m.OkZ) (h:Heap):doCall E (callR E) 49 [.agg m.c] h=some (.int .i64 (nodesF m),h):=by
  have h1:=m.hm
  have e0:m.main=sts m.mainS:=rfl
  have ht:=hz.tot
  have q1:=fun f h=>nod_ok _ m.mainS (Nat.le_refl _) (by omega) f h
  have b1:=nnS_bd m.mainS
  refine Zg (pf:=p49) rfl rfl rfl rfl (by simp [PV.lowL,PV.low,Zj,Zi,Zk,Zl,h1]) (by simp [PV.low,PV.lowL,Zj,Zi,Zk,Zl,h1]) ?_ h
  show kQ E _ (endQ [⟨2,none⟩] _) .norm { lvl:=0,tmps:=mk 27 [(0,.agg m.c)],heap:=[[none]],defers:=[] }
  repeat' first|(with_reducible first|refine cS ?_ ?_|refine oS ?_ ?_|refine dS ?_ ?_)<;>intro _|((with_reducible refine kk ?_ ?_);·rfl)|simp -implicitDefEqProofs(disch:=first|omega|assumption)only[push_cast,simprocAttr,Zd,Zc,Ze,Zb,h1,e0,q1]|(with_reducible first|refine cB ?_ ?_|refine oB ?_ ?_|refine dB ?_ ?_)<;>intro _
  with_reducible refine nod_loop m hm hz (nodesF m) ?_ m.fs [] (nnS m.mainS) _ _ rfl rfl (by omega) (by omega) (by simp [look,Za]) (by simp [look,Za]) (by simp [look,Za]) (by simp [look,Za])
  intro t o0 h3
  repeat' first|(with_reducible first|refine cS ?_ ?_|refine oS ?_ ?_|refine dS ?_ ?_)<;>intro _|((with_reducible refine kk ?_ ?_);·rfl)|simp -implicitDefEqProofs(disch:=first|omega|assumption)only[push_cast,simprocAttr,Zd,Zc,Ze,Zb,h3]|(with_reducible first|refine cB ?_ ?_|refine oB ?_ ?_|refine dB ?_ ?_)<;>intro _
theorem Xx {a b:Int}:mxI a b=max a b:=by unfold mxI;split<;>omega
mutual
def Ex.dd:Ex→Int
  | .mk _ _ _ _ _ as=>ddL as+1
def ddL:List Ex→Int
  | []=>0
  | e::r=>max e.dd (ddL r)
end
mutual
theorem Ex.dd_bd:∀ e:Ex,0≤e.dd∧e.dd≤e.size
  | .mk _ _ _ _ _ as=>by
    have:=ddL_bd as
    simp only [Ex.dd,Ex.size]
    omega
theorem ddL_bd:∀ l:List Ex,0≤ddL l∧ddL l≤sizeL l
  | []=>by simp [ddL,sizeL]
  | e::r=>by
    have:=e.dd_bd
    have:=ddL_bd r
    simp only [ddL,sizeL]
    omega
end
theorem edd_loop (as:List Ex) {fl:Fl} (has:as.length≤1048576) (hrec:∀ a∈as,∀ h,doCall E (callR E) 83 [.agg a.c] h=some (.int .i64 a.dd,h)) (fin:Int) {ks:List KI} {Q:PEx→Fr→Prop}
    (hn:∀ t o0,look t 3=.int .i64 fin→kQ E ks Q .norm { lvl:=0,tmps:=mk 20 t,heap:=[[o0]],defers:=[] }) :
    ∀ (rest pre:List Ex) (n:Int) (o0:Option Ob) (t:List (Nat × PV)),as=pre++rest→(max n (ddL rest)=fin)→(0≤n) →
      look t 3=.int .i64 n→look t 7=.vs fl (exs as)→look t 8=.int .i64 as.length→look t 9=.int .i64 pre.length →
      kQ E (.code p83l0::.blk 0::ks) Q .norm { lvl:=0,tmps:=mk 20 t,heap:=[[o0]],defers:=[] }:=by
  intro rest
  induction rest with
  | nil =>
    intro pre n o0 t hl hi0 hi1 h3 h7 h8 h9
    have e:as.length=pre.length:=by rw [hl];simp
    refine loopK' (c:=p83l0) rfl ?_
    repeat' first|(with_reducible first|refine cS ?_ ?_|refine oS ?_ ?_|refine dS ?_ ?_)<;>intro _|((with_reducible refine kk ?_ ?_);·rfl)|simp -implicitDefEqProofs(disch:=first|omega|assumption)only[push_cast,simprocAttr,Zd,Zc,Ze,Zb,h3,h7,h8,h9,e]|(with_reducible first|refine cB ?_ ?_|refine oB ?_ ?_|refine dB ?_ ?_)<;>intro _
    exact hn _ _ (by simp only [ddL] at hi0;rw [show fin=n from by omega];simp [look,Za,h3])
  | cons s r ih =>
    intro pre n o0 t hl hi0 hi1 h3 h7 h8 h9
    have e:as.length=pre.length+r.length+1:=by rw [hl];simp;omega
    have hg:(exs as)[pre.length]?=some (.agg [.int .i64 s.kind,.int .i64 s.op,.str s.name,.int .i64 s.value,.vs s.fl (exs s.args)]):=by rw [hl,exs_map,← s.c_eq];exact Yd _ _ _ _
    have hq:=hrec s (by rw [hl];simp)
    rw [s.c_eq] at hq
    simp only [ddL] at hi0
    refine loopK' (c:=p83l0) rfl ?_
    repeat' first|(with_reducible first|refine cS ?_ ?_|refine oS ?_ ?_|refine dS ?_ ?_)<;>intro _|((with_reducible refine kk ?_ ?_);·rfl)|simp -implicitDefEqProofs(disch:=first|omega|assumption)only[push_cast,simprocAttr,Zd,Zc,Ze,Zb,h3,h7,h8,h9,hg,hq,Yf,Xx]|(with_reducible first|refine cB ?_ ?_|refine oB ?_ ?_|refine dB ?_ ?_)<;>intro _
    refine ih (pre++[s]) (max n s.dd) _ _ (by simp [hl]) (by omega) (by omega) (by simp [look,Za]) (by simp [look,Za,h7]) (by simp [look,Za,h8]) (by simp [look,Za])
theorem edd_ok:∀ (n:Nat) (e:Ex),e.size≤n→e.size≤1048576→∀ (h:Heap),doCall E (callR E) 83 [.agg e.c] h=some (.int .i64 e.dd,h):=by
  intro n
  induction n with
  | zero=>intro e hn;rw [e.size_eq] at hn;omega
  | succ n ih =>
    intro e hn hb h
    obtain ⟨k,o,nm,x,fl,as⟩:=e
    have hsz:=Ex.size_eq (.mk k o nm x fl as)
    simp only [Ex.args] at hsz
    have hlen:=sizeL_len as
    have hbd:=ddL_bd as
    rw [show (Ex.mk k o nm x fl as).c=[.int .i64 k,.int .i64 o,.str nm,.int .i64 x,.vs fl (exs as)] from by simp [Ex.c]]
    refine Zg (pf:=p83) rfl rfl rfl rfl (by simp [PV.lowL,PV.low,Zo]) (by simp [PV.low,PV.lowL,Zo]) ?_ h
    show kQ E _ (endQ [⟨2,none⟩] _) .norm { lvl:=0,tmps:=mk 20 [(0,.agg [.int .i64 k,.int .i64 o,.str nm,.int .i64 x,.vs fl (exs as)])],heap:=[[none]],defers:=[] }
    repeat' first|(with_reducible first|refine cS ?_ ?_|refine oS ?_ ?_|refine dS ?_ ?_)<;>intro _|((with_reducible refine kk ?_ ?_);·rfl)|simp -implicitDefEqProofs(disch:=first|omega|assumption)only[push_cast,simprocAttr,Zd,Zc,Ze,Zb]|(with_reducible first|refine cB ?_ ?_|refine oB ?_ ?_|refine dB ?_ ?_)<;>intro _
    with_reducible refine edd_loop as (fl:=fl) (by omega) ?_ (ddL as) ?_ as [] 0 _ _ rfl (by omega) (by omega) (by simp [look,Za]) (by simp [look,Za]) (by simp [look,Za]) (by simp [look,Za])
    · intro a ha
      have:=Ex.size_mem ha
      exact fun h=>ih a (by omega) (by omega) h
    · intro t o0 h3
      repeat' first|(with_reducible first|refine cS ?_ ?_|refine oS ?_ ?_|refine dS ?_ ?_)<;>intro _|((with_reducible refine kk ?_ ?_);·rfl)|simp -implicitDefEqProofs(disch:=first|omega|assumption)only[push_cast,simprocAttr,Zd,Zc,Ze,Zb,h3]|(with_reducible first|refine cB ?_ ?_|refine oB ?_ ?_|refine dB ?_ ?_)<;>intro _
      all_goals simp [Ex.dd]
mutual
def St.sd:St→Int
  | .mk _ _ _ _ _ _ _ b _ e=>1+max (sdS b) (sdS e)
def sdS:List St→Int
  | []=>0
  | s::r=>max s.sd (sdS r)
end
theorem St.sd_eq (s:St):s.sd=1+max (sdS s.body) (sdS s.els):=by cases s;simp [St.sd,St.body,St.els]
mutual
theorem St.sd_bd:∀ s:St,0≤s.sd∧s.sd≤s.sz
  | .mk k n t tg v ct fb b fe e=>by
    have:=sdS_bd b
    have:=sdS_bd e
    simp only [St.sd,St.sz]
    omega
theorem sdS_bd:∀ l:List St,0≤sdS l∧sdS l≤szS l
  | []=>by simp [sdS,szS]
  | s::r=>by
    have:=s.sd_bd
    have:=sdS_bd r
    simp only [sdS,szS]
    omega
end
set_option maxHeartbeats 2000000 in
theorem sdd_loop (l:List St) {f:Fl} (hlen:l.length≤1048576) (hrec:∀ s∈l,s.sz≤1048576∧(∀ h,doCall E (callR E) 81 [.vs s.fb (sts s.body)] h=some (.int .i64 (sdS s.body),h))∧(∀ h,doCall E (callR E) 81 [.vs s.fe (sts s.els)] h=some (.int .i64 (sdS s.els),h))) (fin:Int) {ks:List KI} {Q:PEx→Fr→Prop}
    (hn:∀ t o0,look t 3=.int .i64 fin→kQ E ks Q .norm { lvl:=0,tmps:=mk 24 t,heap:=[[o0]],defers:=[] }) :
    ∀ (rest pre:List St) (n:Int) (o0:Option Ob) (t:List (Nat × PV)),l=pre++rest→(max n (sdS rest)=fin)→(0≤n) →
      look t 3=.int .i64 n→look t 6=.vs f (sts l)→look t 7=.int .i64 l.length→look t 8=.int .i64 pre.length →
      kQ E (.code p81l0::.blk 0::ks) Q .norm { lvl:=0,tmps:=mk 24 t,heap:=[[o0]],defers:=[] }:=by
  intro rest
  have pu81:pureB E 81=true:=rfl
  induction rest with
  | nil =>
    intro pre n o0 t hl hi0 hi1 h3 h6 h7 h8
    have e:l.length=pre.length:=by rw [hl];simp
    refine loopK' (c:=p81l0) rfl ?_
    repeat' first|(with_reducible first|refine cS ?_ ?_|refine oS ?_ ?_|refine dS ?_ ?_)<;>intro _|((with_reducible refine kk ?_ ?_);·rfl)|simp -implicitDefEqProofs(disch:=first|omega|assumption)only[push_cast,simprocAttr,Zd,Zc,Ze,Zb,h3,h6,h7,h8,e,Xk]|(with_reducible first|refine cB ?_ ?_|refine oB ?_ ?_|refine dB ?_ ?_)<;>intro _
    exact hn _ _ (by simp only [sdS] at hi0;rw [show fin=n from by omega];simp [look,Za,h3])
  | cons s r ih =>
    intro pre n o0 t hl hi0 hi1 h3 h6 h7 h8
    have e:l.length=pre.length+r.length+1:=by rw [hl];simp;omega
    have hg:(sts l)[pre.length]?=some (.agg [.int .i64 s.kind,.str s.name,.int .i64 s.ty.kind,.str s.ty.name,.int .i64 s.target.kind,.int .i64 s.target.op,.str s.target.name,.int .i64 s.target.value,.vs s.target.fl (exs s.target.args),.int .i64 s.value.kind,.int .i64 s.value.op,.str s.value.name,.int .i64 s.value.value,.vs s.value.fl (exs s.value.args),.int .i64 s.count,.vs s.fb (sts s.body),.vs s.fe (sts s.els)]):=by rw [hl,sts_map,← s.c17];exact Yd _ _ _ _
    obtain ⟨hsz,q1,q2⟩:=hrec s (by rw [hl];simp)
    have b0:=s.sd_bd
    have b1:=sdS_bd s.body
    have b2:=sdS_bd s.els
    have b7:=s.sz_eq
    have b8:=s.sd_eq
    simp only [sdS] at hi0
    refine loopK' (c:=p81l0) rfl ?_
    repeat' first|(with_reducible first|refine cS ?_ ?_|refine oS ?_ ?_|refine dS ?_ ?_)<;>intro _|((with_reducible refine kk ?_ ?_);·rfl)|simp -implicitDefEqProofs(disch:=first|omega|assumption)only[push_cast,simprocAttr,Zd,Zc,Ze,Zb,h3,h6,h7,h8,hg,Xk,q1,q2,Yn,Yf,Xx]|(with_reducible first|refine cB ?_ ?_|refine oB ?_ ?_|refine dB ?_ ?_)<;>intro _
    refine ih (pre++[s]) (max n (1+max (sdS s.body) (sdS s.els))) _ _ (by simp [hl]) (by omega) (by omega) (by simp [look,Za]) (by simp [look,Za,h6]) (by simp [look,Za,h7]) (by simp [look,Za])
theorem sdd_ok:∀ (n:Nat) (l:List St),szS l≤n→szS l≤1048576→∀ (f:Fl) (h:Heap),doCall E (callR E) 81 [.vs f (sts l)] h=some (.int .i64 (sdS l),h):=by
  intro n
  have go:∀ (l:List St),szS l≤1048576→(∀ s∈l,∀ b,b=s.body∨b=s.els→∀ f h,doCall E (callR E) 81 [.vs f (sts b)] h=some (.int .i64 (sdS b),h))→∀ (f:Fl) (h:Heap),doCall E (callR E) 81 [.vs f (sts l)] h=some (.int .i64 (sdS l),h):=by
    intro l hb hrec f h
    have hlen:=szS_len l
    have hbd:=sdS_bd l
    refine Zg (pf:=p81) rfl rfl rfl rfl (by simp [PV.lowL,PV.low,Yn]) (by simp [PV.low,PV.lowL,Yn]) ?_ h
    show kQ E _ (endQ [⟨2,none⟩] _) .norm { lvl:=0,tmps:=mk 24 [(0,.vs f (sts l))],heap:=[[none]],defers:=[] }
    repeat' first|(with_reducible first|refine cS ?_ ?_|refine oS ?_ ?_|refine dS ?_ ?_)<;>intro _|((with_reducible refine kk ?_ ?_);·rfl)|simp -implicitDefEqProofs(disch:=first|omega|assumption)only[push_cast,simprocAttr,Zd,Zc,Ze,Zb,Xk]|(with_reducible first|refine cB ?_ ?_|refine oB ?_ ?_|refine dB ?_ ?_)<;>intro _
    with_reducible refine sdd_loop l (f:=f) (by omega) ?_ (sdS l) ?_ l [] 0 _ _ rfl (by omega) (by omega) (by simp [look,Za]) (by simp [look,Za]) (by simp [look,Za]) (by simp [look,Za])
    · intro s hs
      have:=Xb hs
      exact ⟨by omega,fun h=>hrec s hs _ (.inl rfl) _ h,fun h=>hrec s hs _ (.inr rfl) _ h⟩
    · intro t o0 h3
      repeat' first|(with_reducible first|refine cS ?_ ?_|refine oS ?_ ?_|refine dS ?_ ?_)<;>intro _|((with_reducible refine kk ?_ ?_);·rfl)|simp -implicitDefEqProofs(disch:=first|omega|assumption)only[push_cast,simprocAttr,Zd,Zc,Ze,Zb,h3]|(with_reducible first|refine cB ?_ ?_|refine oB ?_ ?_|refine dB ?_ ?_)<;>intro _
  induction n with
  | zero =>
    intro l hn hb
    refine go l hb ?_
    intro s hs
    have:=Xb hs
    have:=s.sz_eq
    omega
  | succ n ih =>
    intro l hn hb
    refine go l hb ?_
    intro s hs b hbb f h
    have h1:=Xb hs
    have h2:=s.sz_eq
    rcases hbb with e|e
    · subst e;exact ih _ (by omega) (by omega) f h
    · subst e;exact ih _ (by omega) (by omega) f h
end
section
mutual
def St.xd:St→Int
  | .mk k _ _ tg v _ _ b _ e=>max (max (xdS b) (xdS e)) (if k=2 then max tg.dd v.dd else if k=1∨k=3 then v.dd else 0)
def xdS:List St→Int
  | []=>0
  | s::r=>max s.xd (xdS r)
end
theorem St.xd_eq (s:St):s.xd=max (max (xdS s.body) (xdS s.els)) (ddL s.cs):=by
  obtain ⟨k,n,t,tg,v,ct,fb,b,fe,e⟩:=s
  have h1:=tg.dd_bd
  have h3:=v.dd_bd
  by_cases h2:k=2
  · simp [St.xd,St.cs,St.kind,St.target,St.value,St.body,St.els,h2,ddL]
    omega
  · by_cases h1:k=1∨k=3
    · simp [St.xd,St.cs,St.kind,St.target,St.value,St.body,St.els,h2,h1,ddL]
      omega
    · simp [St.xd,St.cs,St.kind,St.target,St.value,St.body,St.els,h2,h1,ddL]
mutual
theorem St.xd_bd:∀ s:St,0≤s.xd
  | .mk k n t tg v ct fb b fe e=>by
    have:=xdS_bd b
    simp only [St.xd]
    omega
theorem xdS_bd:∀ l:List St,0≤xdS l
  | []=>by simp [xdS]
  | s::r=>by
    have:=s.xd_bd
    simp only [xdS]
    omega
end
theorem xd1_loop (cs:List Ex) {fc:Fl} (hcs:cs.length≤1048576) (hz:∀ a∈cs,a.size≤1048576) (fin:Int) {o0:Option Ob} {v8 v9 v10:PV} {ks:List KI} {Q:PEx→Fr→Prop}
    (hn:∀ t o1,look t 3=.int .i64 fin→look t 8=v8→look t 9=v9→look t 10=v10→kQ E ks Q .norm { lvl:=0,tmps:=mk 36 t,heap:=[[o0,o1]],defers:=[] }) :
    ∀ (rest pre:List Ex) (n:Int) (o1:Option Ob) (t:List (Nat × PV)),cs=pre++rest→(max n (ddL rest)=fin)→(0≤n) →
      look t 3=.int .i64 n→look t 8=v8→look t 9=v9→look t 10=v10→look t 23=.vs fc (exs cs)→look t 24=.int .i64 cs.length→look t 25=.int .i64 pre.length →
      kQ E (.code p82l1::.blk 2::ks) Q .norm { lvl:=0,tmps:=mk 36 t,heap:=[[o0,o1]],defers:=[] }:=by
  intro rest
  induction rest with
  | nil =>
    intro pre n o1 t hl hi0 hi1 h3 h8 h9 h10 h23 h24 h25
    have e:cs.length=pre.length:=by rw [hl];simp
    refine loopK' (c:=p82l1) rfl ?_
    repeat' first|(with_reducible first|refine cS ?_ ?_|refine oS ?_ ?_|refine dS ?_ ?_)<;>intro _|((with_reducible refine kk ?_ ?_);·rfl)|simp -implicitDefEqProofs(disch:=first|omega|assumption)only[push_cast,simprocAttr,Zd,Zc,Ze,Zb,h3,h8,h9,h10,h23,h24,h25,e]|(with_reducible first|refine cB ?_ ?_|refine oB ?_ ?_|refine dB ?_ ?_)<;>intro _
    exact hn _ _ (by simp only [ddL] at hi0;rw [show fin=n from by omega];simp [look,Za,h3]) (by simp [look,Za,h8]) (by simp [look,Za,h9]) (by simp [look,Za,h10])
  | cons s r ih =>
    intro pre n o1 t hl hi0 hi1 h3 h8 h9 h10 h23 h24 h25
    have e:cs.length=pre.length+r.length+1:=by rw [hl];simp;omega
    have hg:(exs cs)[pre.length]?=some (.agg [.int .i64 s.kind,.int .i64 s.op,.str s.name,.int .i64 s.value,.vs s.fl (exs s.args)]):=by rw [hl,exs_map,← s.c_eq];exact Yd _ _ _ _
    have hsz:=hz s (by rw [hl];simp)
    have hq:=fun h=>edd_ok _ s (Nat.le_refl _) hsz h
    have hb:=s.dd_bd
    rw [s.c_eq] at hq
    simp only [ddL] at hi0
    refine loopK' (c:=p82l1) rfl ?_
    repeat' first|(with_reducible first|refine cS ?_ ?_|refine oS ?_ ?_|refine dS ?_ ?_)<;>intro _|((with_reducible refine kk ?_ ?_);·rfl)|simp -implicitDefEqProofs(disch:=first|omega|assumption)only[push_cast,simprocAttr,Zd,Zc,Ze,Zb,h3,h8,h9,h10,h23,h24,h25,hg,hq,Yf,Xx]|(with_reducible first|refine cB ?_ ?_|refine oB ?_ ?_|refine dB ?_ ?_)<;>intro _
    refine ih (pre++[s]) (max n s.dd) _ _ (by simp [hl]) (by omega) (by omega) (by simp [look,Za]) (by simp [look,Za,h8]) (by simp [look,Za,h9]) (by simp [look,Za,h10]) (by simp [look,Za,h23]) (by simp [look,Za,h24]) (by simp [look,Za])
set_option maxHeartbeats 2000000 in
theorem xd0_loop (l:List St) {f:Fl} (hlen:l.length≤1048576) (hrec:∀ s∈l,s.sz≤1048576∧(∀ h,doCall E (callR E) 82 [.vs s.fb (sts s.body)] h=some (.int .i64 (xdS s.body),h))∧(∀ h,doCall E (callR E) 82 [.vs s.fe (sts s.els)] h=some (.int .i64 (xdS s.els),h))) (fin:Int) {ks:List KI} {Q:PEx→Fr→Prop}
    (hn:∀ t o0 o1,look t 3=.int .i64 fin→kQ E ks Q .norm { lvl:=0,tmps:=mk 36 t,heap:=[[o0,o1]],defers:=[] }) :
    ∀ (rest pre:List St) (n:Int) (o0 o1:Option Ob) (t:List (Nat × PV)),l=pre++rest→(max n (xdS rest)=fin)→(0≤n) →
      look t 3=.int .i64 n→look t 8=.vs f (sts l)→look t 9=.int .i64 l.length→look t 10=.int .i64 pre.length →
      kQ E (.code p82l0::.blk 0::ks) Q .norm { lvl:=0,tmps:=mk 36 t,heap:=[[o0,o1]],defers:=[] }:=by
  intro rest
  have pu82:pureB E 82=true:=rfl
  induction rest with
  | nil =>
    intro pre n o0 o1 t hl hi0 hi1 h3 h8 h9 h10
    have e:l.length=pre.length:=by rw [hl];simp
    refine loopK' (c:=p82l0) rfl ?_
    repeat' first|(with_reducible first|refine cS ?_ ?_|refine oS ?_ ?_|refine dS ?_ ?_)<;>intro _|((with_reducible refine kk ?_ ?_);·rfl)|simp -implicitDefEqProofs(disch:=first|omega|assumption)only[push_cast,simprocAttr,Zd,Zc,Ze,Zb,h3,h8,h9,h10,e,Xk]|(with_reducible first|refine cB ?_ ?_|refine oB ?_ ?_|refine dB ?_ ?_)<;>intro _
    exact hn _ _ _ (by simp only [xdS] at hi0;rw [show fin=n from by omega];simp [look,Za,h3])
  | cons s r ih =>
    intro pre n o0 o1 t hl hi0 hi1 h3 h8 h9 h10
    have e:l.length=pre.length+r.length+1:=by rw [hl];simp;omega
    have hg:(sts l)[pre.length]?=some (.agg [.int .i64 s.kind,.str s.name,.int .i64 s.ty.kind,.str s.ty.name,.int .i64 s.target.kind,.int .i64 s.target.op,.str s.target.name,.int .i64 s.target.value,.vs s.target.fl (exs s.target.args),.int .i64 s.value.kind,.int .i64 s.value.op,.str s.value.name,.int .i64 s.value.value,.vs s.value.fl (exs s.value.args),.int .i64 s.count,.vs s.fb (sts s.body),.vs s.fe (sts s.els)]):=by rw [hl,sts_map,← s.c17];exact Yd _ _ _ _
    obtain ⟨hsz,q1,q2⟩:=hrec s (by rw [hl];simp)
    have b1:=xdS_bd s.body
    have b2:=xdS_bd s.els
    have b3:=s.cs_sz
    have b4:=sizeL_len s.cs
    have b6:=s.xd_eq
    have b7:=s.sz_eq
    simp only [xdS] at hi0
    refine loopK' (c:=p82l0) rfl ?_
    repeat' first|(with_reducible first|refine cS ?_ ?_|refine oS ?_ ?_|refine dS ?_ ?_)<;>intro _|((with_reducible refine kk ?_ ?_);·rfl)|simp -implicitDefEqProofs(disch:=first|omega|assumption)only[push_cast,simprocAttr,Zd,Zc,Ze,Zb,h3,h8,h9,h10,hg,Xk,q1,q2,cnt_ok,Yn,Yf,Xx]|(with_reducible first|refine cB ?_ ?_|refine oB ?_ ?_|refine dB ?_ ?_)<;>intro _
    with_reducible refine xd1_loop s.cs (fc:=cflF s.kind) (by omega) (fun a ha=>Nat.le_trans (Ex.size_mem ha) (by omega)) (max (max (max n (xdS s.body)) (xdS s.els)) (ddL s.cs)) (v8:=.vs f (sts l)) (v9:=.int .i64 l.length) (v10:=.int .i64 pre.length) ?_ s.cs [] (max (max n (xdS s.body)) (xdS s.els)) _ _ rfl rfl (by omega) ?_ ?_ ?_ ?_ ?_ ?_ ?_
    all_goals first
      | (simp [look,Za,h8,h9,h10];done)
      | skip
    intro t' o1' k3 k8 k9 k10
    repeat' first|(with_reducible first|refine cS ?_ ?_|refine oS ?_ ?_|refine dS ?_ ?_)<;>intro _|((with_reducible refine kk ?_ ?_);·rfl)|simp -implicitDefEqProofs(disch:=first|omega|assumption)only[push_cast,simprocAttr,Zd,Zc,Ze,Zb,k3,k8,k9,k10]|(with_reducible first|refine cB ?_ ?_|refine oB ?_ ?_|refine dB ?_ ?_)<;>intro _
    refine ih (pre++[s]) (max (max (max n (xdS s.body)) (xdS s.els)) (ddL s.cs)) _ _ _ (by simp [hl]) (by omega) (by omega) (by simp [look,Za,k3]) (by simp [look,Za,k8]) (by simp [look,Za,k9]) (by simp [look,Za])
theorem xdd_ok:∀ (n:Nat) (l:List St),szS l≤n→szS l≤1048576→∀ (f:Fl) (h:Heap),doCall E (callR E) 82 [.vs f (sts l)] h=some (.int .i64 (xdS l),h):=by
  intro n
  have go:∀ (l:List St),szS l≤1048576→(∀ s∈l,∀ b,b=s.body∨b=s.els→∀ f h,doCall E (callR E) 82 [.vs f (sts b)] h=some (.int .i64 (xdS b),h))→∀ (f:Fl) (h:Heap),doCall E (callR E) 82 [.vs f (sts l)] h=some (.int .i64 (xdS l),h):=by
    intro l hb hrec f h
    have hlen:=szS_len l
    have hbd:=xdS_bd l
    refine Zg (pf:=p82) rfl rfl rfl rfl (by simp [PV.lowL,PV.low,Yn]) (by simp [PV.low,PV.lowL,Yn]) ?_ h
    show kQ E _ (endQ [⟨2,none⟩] _) .norm { lvl:=0,tmps:=mk 36 [(0,.vs f (sts l))],heap:=[[none,none]],defers:=[] }
    repeat' first|(with_reducible first|refine cS ?_ ?_|refine oS ?_ ?_|refine dS ?_ ?_)<;>intro _|((with_reducible refine kk ?_ ?_);·rfl)|simp -implicitDefEqProofs(disch:=first|omega|assumption)only[push_cast,simprocAttr,Zd,Zc,Ze,Zb,Xk]|(with_reducible first|refine cB ?_ ?_|refine oB ?_ ?_|refine dB ?_ ?_)<;>intro _
    with_reducible refine xd0_loop l (f:=f) (by omega) ?_ (xdS l) ?_ l [] 0 _ _ _ rfl (by omega) (by omega) (by simp [look,Za]) (by simp [look,Za]) (by simp [look,Za]) (by simp [look,Za])
    · intro s hs
      have:=Xb hs
      exact ⟨by omega,fun h=>hrec s hs _ (.inl rfl) _ h,fun h=>hrec s hs _ (.inr rfl) _ h⟩
    · intro t o0 o1 h3
      repeat' first|(with_reducible first|refine cS ?_ ?_|refine oS ?_ ?_|refine dS ?_ ?_)<;>intro _|((with_reducible refine kk ?_ ?_);·rfl)|simp -implicitDefEqProofs(disch:=first|omega|assumption)only[push_cast,simprocAttr,Zd,Zc,Ze,Zb,h3]|(with_reducible first|refine cB ?_ ?_|refine oB ?_ ?_|refine dB ?_ ?_)<;>intro _
  induction n with
  | zero =>
    intro l hn hb
    refine go l hb ?_
    intro s hs
    have:=Xb hs
    have:=s.sz_eq
    omega
  | succ n ih =>
    intro l hn hb
    refine go l hb ?_
    intro s hs b hbb f h
    have h1:=Xb hs
    have h2:=s.sz_eq
    rcases hbb with e|e
    · subst e;exact ih _ (by omega) (by omega) f h
    · subst e;exact ih _ (by omega) (by omega) f h
def ddFs:List Fun'→Int
  | []=>0
  | f::r=>max (max (max (sdS f.bodyS) (xdS f.bodyS)) f.retE.dd) (ddFs r)
def depthF (m:Mod):Int:=max (max (sdS m.mainS) (xdS m.mainS)) (ddFs m.fs)
set_option maxHeartbeats 2000000 in
theorem dep_loop (m:Mod) (hm:m.Ok) (hz:m.OkZ) (fin:Int) {ks:List KI} {Q:PEx→Fr→Prop}
    (hn:∀ t o0,look t 3=.int .i64 fin→kQ E ks Q .norm { lvl:=0,tmps:=mk 33 t,heap:=[[o0]],defers:=[] }) :
    ∀ (rest pre:List Fun') (n:Int) (o0:Option Ob) (t:List (Nat × PV)),m.fs=pre++rest→(max n (ddFs rest)=fin)→(0≤n) →
      look t 3=.int .i64 n→look t 14=.vs m.ff (funs m.fs)→look t 15=.int .i64 m.fs.length→look t 16=.int .i64 pre.length →
      kQ E (.code p50l0::.blk 0::ks) Q .norm { lvl:=0,tmps:=mk 33 t,heap:=[[o0]],defers:=[] }:=by
  intro rest
  have hss:=hm.fs
  have pu81:pureB E 81=true:=rfl
  have pu82:pureB E 82=true:=rfl
  have pu83:pureB E 83=true:=rfl
  induction rest with
  | nil =>
    intro pre n o0 t hl hi0 hi1 h3 h14 h15 h16
    have e:m.fs.length=pre.length:=by rw [hl];simp
    refine loopK' (c:=p50l0) rfl ?_
    repeat' first|(with_reducible first|refine cS ?_ ?_|refine oS ?_ ?_|refine dS ?_ ?_)<;>intro _|((with_reducible refine kk ?_ ?_);·rfl)|simp -implicitDefEqProofs(disch:=first|omega|assumption)only[push_cast,simprocAttr,Zd,Zc,Ze,Zb,h3,h14,h15,h16,e]|(with_reducible first|refine cB ?_ ?_|refine oB ?_ ?_|refine dB ?_ ?_)<;>intro _
    exact hn _ _ (by simp only [ddFs] at hi0;rw [show fin=n from by omega];simp [look,Za,h3])
  | cons s r ih =>
    intro pre n o0 t hl hi0 hi1 h3 h14 h15 h16
    have e:m.fs.length=pre.length+r.length+1:=by rw [hl];simp;omega
    have hg:(funs m.fs)[pre.length]?=some (.agg [.str s.name,.vs s.fl (flds s.ps),.int .i64 s.res.kind,.str s.res.name,.vs s.fb (sts s.bodyS),.int .i64 s.retE.kind,.int .i64 s.retE.op,.str s.retE.name,.int .i64 s.retE.value,.vs s.retE.fl (exs s.retE.args)]):=by rw [hl,← s.v10];exact Yd _ _ _ _
    have hmz:=Nat.le_trans (funZ_mem (f:=s) (l:=m.fs) (by rw [hl];simp)) (Nat.le_trans (Nat.le_add_left _ _) hz.tot)
    have q0:=fun f h=>sdd_ok _ s.bodyS (Nat.le_refl _) (by omega) f h
    have q1:=fun f h=>xdd_ok _ s.bodyS (Nat.le_refl _) (by omega) f h
    have q2:=fun h=>edd_ok _ s.retE (Nat.le_refl _) (by omega) h
    rw [s.retE.c_eq] at q2
    simp only [ddFs] at hi0
    refine loopK' (c:=p50l0) rfl ?_
    repeat' first|(with_reducible first|refine cS ?_ ?_|refine oS ?_ ?_|refine dS ?_ ?_)<;>intro _|((with_reducible refine kk ?_ ?_);·rfl)|simp -implicitDefEqProofs(disch:=first|omega|assumption)only[push_cast,simprocAttr,Zd,Zc,Ze,Zb,h3,h14,h15,h16,hg,q0,q1,q2,Yn,Yf,Xx]|(with_reducible first|refine cB ?_ ?_|refine oB ?_ ?_|refine dB ?_ ?_)<;>intro _
    refine ih (pre++[s]) (max (max (max n (sdS s.bodyS)) (xdS s.bodyS)) s.retE.dd) _ _ (by simp [hl]) (by omega) (by omega) (by simp [look,Za]) (by simp [look,Za,h14]) (by simp [look,Za,h15]) (by simp [look,Za])
theorem depth_ok (m:Mod) (hm:m.Ok) (hz:m.OkZ) (h:Heap):doCall E (callR E) 50 [.agg m.c] h=some (.int .i64 (depthF m),h):=by
  have h1:=m.hm
  have e0:m.main=sts m.mainS:=rfl
  have ht:=hz.tot
  have q1:=fun f h=>sdd_ok _ m.mainS (Nat.le_refl _) (by omega) f h
  have q2:=fun f h=>xdd_ok _ m.mainS (Nat.le_refl _) (by omega) f h
  have b1:=sdS_bd m.mainS
  refine Zg (pf:=p50) rfl rfl rfl rfl (by simp [PV.lowL,PV.low,Zj,Zi,Zk,Zl,h1]) (by simp [PV.low,PV.lowL,Zj,Zi,Zk,Zl,h1]) ?_ h
  show kQ E _ (endQ [⟨2,none⟩] _) .norm { lvl:=0,tmps:=mk 33 [(0,.agg m.c)],heap:=[[none]],defers:=[] }
  have pu81:pureB E 81=true:=rfl
  repeat' first|(with_reducible first|refine cS ?_ ?_|refine oS ?_ ?_|refine dS ?_ ?_)<;>intro _|((with_reducible refine kk ?_ ?_);·rfl)|simp -implicitDefEqProofs(disch:=first|omega|assumption)only[push_cast,simprocAttr,Zd,Zc,Ze,Zb,h1,e0,q1,q2,Yn,Yf,Xx]|(with_reducible first|refine cB ?_ ?_|refine oB ?_ ?_|refine dB ?_ ?_)<;>intro _
  with_reducible refine dep_loop m hm hz (depthF m) ?_ m.fs [] (max (sdS m.mainS) (xdS m.mainS)) _ _ rfl rfl (by omega) (by simp [look,Za]) (by simp [look,Za]) (by simp [look,Za]) (by simp [look,Za])
  intro t o0 h3
  repeat' first|(with_reducible first|refine cS ?_ ?_|refine oS ?_ ?_|refine dS ?_ ?_)<;>intro _|((with_reducible refine kk ?_ ?_);·rfl)|simp -implicitDefEqProofs(disch:=first|omega|assumption)only[push_cast,simprocAttr,Zd,Zc,Ze,Zb,h3]|(with_reducible first|refine cB ?_ ?_|refine oB ?_ ?_|refine dB ?_ ?_)<;>intro _
end
section
section
variable {l:List (Option Ob)} {r:Heap} {L:List (Option Ob)} {i n:Nat} {o:Ob}
theorem hg_c:hget (l::r) (0,i)=(l[i]?).bind id:=rfl
theorem hg_s:hget (l::r) (n+1,i)=hget r (n,i):=rfl
theorem hs_c:hset (l::r) (0,i) o=l.set i (some o)::r:=rfl
theorem hs_s:hset (l::r) (n+1,i) o=l::hset r (n,i) o:=rfl
theorem hg_t:hget (r++[L]) (r.length,i)=(L[i]?).bind id:=by simp [hget]
theorem hs_t:hset (r++[L]) (r.length,i) o=r++[L.set i (some o)]:=by
  unfold hset
  induction r with
  | nil=>rfl
  | cons x r ih=>simp [ih]
theorem gd_s:(l::r).getD (n+1) []=r.getD n []:=rfl
theorem gd_tp:(r++[L]).getD r.length []=L:=by simp
theorem tk_s:(l::r).take (n+1)=l::r.take n:=rfl
theorem tk_t:(r++[L]).take r.length=r:=by simp
theorem hl_c {k:Nat}:heapLow k (l::r)=(l.all (obLow k)&&heapLow k r):=rfl
end
mutual
theorem PV.low_k {k:Nat}:∀ v:PV,v.low 0=true→v.low k=true
  | .sl n _ _ _,h=>by simp [PV.low] at h
  | .ptr n _ _ _,h=>by simp [PV.low] at h
  | .map n _,h=>by simp [PV.low] at h
  | .yld n _,h=>by simp [PV.low] at h
  | .agg cs,h=>by simp only [PV.low] at h ⊢;exact PV.lowL_k cs h
  | .fn _ a b,h=>by simp only [PV.low,Bool.and_eq_true] at h ⊢;exact ⟨PV.lowL_k a h.1,PV.lowL_k b h.2⟩
  | .tuple ts,h=>by simp only [PV.low] at h ⊢;exact PV.lowL_k ts h
  | .junk,_=>rfl
  | .bool _,_=>rfl
  | .int _ _,_=>rfl
  | .str _,_=>rfl
  | .vs _ _,_=>rfl
  | .nilp,_=>rfl
  | .ip _,_=>rfl
  | .nilmap,_=>rfl
  | .nilfn,_=>rfl
  | .nili,_=>rfl
theorem PV.lowL_k {k:Nat}:∀ l:List PV,PV.lowL 0 l=true→PV.lowL k l=true
  | [],_=>rfl
  | v::r,h=>by
    simp only [PV.lowL,Bool.and_eq_true] at h ⊢
    exact ⟨PV.low_k v h.1,PV.lowL_k r h.2⟩
end
def kE (us:List Str):List (PV × PV):=us.map fun s=>(.str s,.bool true)
def insL (a:Str) (us:List Str):List Str:=if a∈us then us else us++[a]
theorem Yj:∀ (us:List Str) (nm:Str),findE (.str nm) (kE us)=some (if nm∈us then some (.bool true) else none)
  | [],nm=>by simp [kE,findE]
  | a::r,nm=>by
    have ih:=Yj r nm
    simp only [kE,List.map_cons,findE,keySame] at ih ⊢
    by_cases e:nm=a
    · subst e;simp
    · have:(nm==a)=false:=by simpa using e
      simp only [this]
      rw [ih]
      simp [e]
theorem set_kE:∀ (us:List Str) (nm:Str),setE (.str nm) (.bool true) (kE us)=kE (insL nm us)
  | [],nm=>by simp [kE,setE,insL]
  | a::r,nm=>by
    have ih:=set_kE r nm
    simp only [kE,List.map_cons,setE,keySame] at ih ⊢
    by_cases e:nm=a
    · subst e;simp [insL]
    · have:(nm==a)=false:=by simpa using e
      simp only [this]
      rw [ih]
      by_cases hm:nm∈r
      · simp [insL,e,hm]
      · simp [insL,e,hm]
theorem kE_low (k:Nat):∀ us:List Str,((kE us).all fun e=>e.2.low k)=true
  | []=>rfl
  | a::r=>by
    have:=kE_low k r
    simp only [kE,List.map_cons,List.all_cons,PV.low,Bool.true_and] at this ⊢
    exact this
attribute [push_cast] hg_s hg_t hs_s hs_t gd_s gd_tp tk_s tk_t hg_c hs_c hl_c
abbrev ckO (m:Mod):Option Ob:=some (.mem [.agg [.int .i64 m.stage,.vs m.sf (scts m.ss),.vs m.uf (flds m.us),.vs m.tf (strs m.ts),.vs m.bf (strs m.bs),.vs m.nf (flds m.ins),.vs m.of (flds m.outs),.vs m.ff (funs m.fs),.vs m.mf m.main,.map (0,0) 1]] 1 false 10)
abbrev usO (us:List Str) (c:Nat):Option Ob:=some (.map (kE us) c 1)
def declF (us:List Str) (nm:Str):Int:=if nameF nm=true∧nm ∉ us then 0 else 13
theorem X5 (m:Mod) (k:Nat):obLow (k+1) (ckO m)=true:=by
  have h1:=PV.lowL_k (k:=k+1) _ m.hm
  simp [obLow,PV.lowL,PV.low]
theorem Xl (us:List Str) (c k:Nat):obLow k (usO us c)=true:=kE_low k us
mutual
theorem PV.low_s {k:Nat}:∀ v:PV,v.low k=true→v.low (k+1)=true
  | .sl n _ _ _,h=>by simp [PV.low,Nat.blt_eq] at h ⊢;omega
  | .ptr n _ _ _,h=>by simp [PV.low,Nat.blt_eq] at h ⊢;omega
  | .map n _,h=>by simp [PV.low,Nat.blt_eq] at h ⊢;omega
  | .yld n _,h=>by simp [PV.low,Nat.blt_eq] at h ⊢;omega
  | .agg cs,h=>by simp only [PV.low] at h ⊢;exact PV.lowL_s cs h
  | .fn _ a b,h=>by simp only [PV.low,Bool.and_eq_true] at h ⊢;exact ⟨PV.lowL_s a h.1,PV.lowL_s b h.2⟩
  | .tuple ts,h=>by simp only [PV.low] at h ⊢;exact PV.lowL_s ts h
  | .junk,_=>rfl
  | .bool _,_=>rfl
  | .int _ _,_=>rfl
  | .str _,_=>rfl
  | .vs _ _,_=>rfl
  | .nilp,_=>rfl
  | .ip _,_=>rfl
  | .nilmap,_=>rfl
  | .nilfn,_=>rfl
  | .nili,_=>rfl
theorem PV.lowL_s {k:Nat}:∀ l:List PV,PV.lowL k l=true→PV.lowL (k+1) l=true
  | [],_=>rfl
  | v::r,h=>by
    simp only [PV.lowL,Bool.and_eq_true] at h ⊢
    exact ⟨PV.low_s v h.1,PV.lowL_s r h.2⟩
end
theorem obLow_s {k:Nat} {o:Option Ob} (h:obLow k o=true):obLow (k+1) o=true:=by
  cases o with
  | none=>rfl
  | some o =>
    cases o with
    | mem el g cl sz =>
      simp only [obLow,Bool.or_eq_true] at h ⊢
      rcases h with h|h
      · exact .inl h
      · exact .inr (PV.lowL_s _ h)
    | map es c g =>
      simp only [obLow,List.all_eq_true] at h ⊢
      exact fun e he=>PV.low_s _ (h e he)
    | iter m s n g=>simp only [obLow] at h ⊢;exact PV.low_s _ h
    | loop t p a b j g=>simp only [obLow] at h ⊢;exact PV.lowL_s _ h
    | dead g=>rfl
theorem all_s {k:Nat} {l:List (Option Ob)} (h:l.all (obLow k)=true):l.all (obLow (k+1))=true:=by
  simp only [List.all_eq_true] at h ⊢
  exact fun o ho=>obLow_s (h o ho)
theorem heapLow_s {k:Nat} {r:Heap} (h:heapLow k r=true):heapLow (k+1) r=true:=by
  unfold heapLow at h ⊢
  simp only [List.all_eq_true] at h ⊢
  intro l hl o ho
  exact obLow_s (h l hl o ho)
structure LowH (r:Heap) (o2:List (Option Ob)):Prop where
  hr:heapLow (r.length+1) r=true
  ho:o2.all (obLow (r.length+1))=true
theorem LowH.push {r:Heap} {o2 L:List (Option Ob)} (h:LowH r o2) (hL:L.all (obLow (r.length+2))=true):LowH (r++[L]) o2:=by
  have e:(r++[L]).length+1=r.length+1+1:=by simp
  refine ⟨?_,?_⟩
  · rw [e]
    have h1:=heapLow_s h.hr
    unfold heapLow at h1 ⊢
    rw [List.all_append,h1]
    simp only [List.all_cons,List.all_nil,Bool.and_true,Bool.true_and]
    exact hL
  · rw [e];exact all_s h.ho
theorem decl_ok (m:Mod) (us:List Str) (c:Nat) (nm:Str) (o2:List (Option Ob)) (r:Heap) (hb:LowH r o2) :
    doCall E (callR E) 51 [.ptr (0,1) 1 0 0,.str nm] ((usO us c::ckO m::o2)::r)=some (.int .i64 (declF us nm),(usO (if declF us nm=0 then insL nm us else us) (if declF us nm=0 then c+1 else c)::ckO m::o2)::r):=by
  have hr:=hb.hr
  have h2:=hb.ho
  have hck:=X5 m r.length
  have hus:=Xl us c (r.length+1)
  have hus2:=Xl (insL nm us)
  by_cases hn:nameF nm=true
  · by_cases hm:nm∈us
    · have hd:declF us nm=13:=by simp [declF,hm]
      simp only [hd,if_neg (show ¬ (13:Int)=0 by decide),if_true]
      refine Z7 (pf:=p51) rfl rfl rfl rfl rfl (by simp [PV.lowL,PV.low]) ?_
      show kQ E _ (endM [⟨4,none⟩] _ _ _) .norm { lvl:=r.length+1,tmps:=mk 21 [(0,.ptr (0,1) 1 0 0),(1,.str nm)],heap:=(usO us c::ckO m::o2)::(r++[[]]),defers:=[] }
      repeat' first|(with_reducible first|refine cS ?_ ?_|refine oS ?_ ?_|refine dS ?_ ?_)<;>intro _|((with_reducible refine kk ?_ ?_);·rfl)|simp -implicitDefEqProofs(disch:=first|omega|assumption)only[push_cast,simprocAttr,Zd,Zc,Ze,Zb,Y0,hn,keyIs,Yj,hm,Zm,Zn,allMarks,hck,hus,hr,h2,List.all_cons,Option.getD_some,Option.getD_none]|(with_reducible first|refine cB ?_ ?_|refine oB ?_ ?_|refine dB ?_ ?_)<;>intro _
    · have hd:declF us nm=0:=by simp [declF,hn,hm]
      simp only [hd,if_neg (show ¬ (13:Int)=0 by decide),if_true]
      refine Z7 (pf:=p51) rfl rfl rfl rfl rfl (by simp [PV.lowL,PV.low]) ?_
      show kQ E _ (endM [⟨4,none⟩] _ _ _) .norm { lvl:=r.length+1,tmps:=mk 21 [(0,.ptr (0,1) 1 0 0),(1,.str nm)],heap:=(usO us c::ckO m::o2)::(r++[[]]),defers:=[] }
      repeat' first|(with_reducible first|refine cS ?_ ?_|refine oS ?_ ?_|refine dS ?_ ?_)<;>intro _|((with_reducible refine kk ?_ ?_);·rfl)|simp -implicitDefEqProofs(disch:=first|omega|assumption)only[push_cast,simprocAttr,Zd,Zc,Ze,Zb,Y0,hn,keyIs,Yj,set_kE,hm,Zm,Zn,allMarks,hck,hus,hus2,hr,h2,List.all_cons,Option.getD_some,Option.getD_none,Option.isSome_none,Option.isSome_some]|(with_reducible first|refine cB ?_ ?_|refine oB ?_ ?_|refine dB ?_ ?_)<;>intro _
  · have hn:nameF nm=false:=by simpa using hn
    have hd:declF us nm=13:=by simp [declF,hn]
    simp only [hd,if_neg (show ¬ (13:Int)=0 by decide),if_true]
    refine Z7 (pf:=p51) rfl rfl rfl rfl rfl (by simp [PV.lowL,PV.low]) ?_
    show kQ E _ (endM [⟨4,none⟩] _ _ _) .norm { lvl:=r.length+1,tmps:=mk 21 [(0,.ptr (0,1) 1 0 0),(1,.str nm)],heap:=(usO us c::ckO m::o2)::(r++[[]]),defers:=[] }
    repeat' first|(with_reducible first|refine cS ?_ ?_|refine oS ?_ ?_|refine dS ?_ ?_)<;>intro _|((with_reducible refine kk ?_ ?_);·rfl)|simp -implicitDefEqProofs(disch:=first|omega|assumption)only[push_cast,simprocAttr,Zd,Zc,Ze,Zb,Y0,hn,Zm,Zn,allMarks,hck,hus,hr,h2,List.all_cons]|(with_reducible first|refine cB ?_ ?_|refine oB ?_ ?_|refine dB ?_ ?_)<;>intro _
end
section
def validF (ss:List Sct) (t:Ty):Bool:=if t.kind=8 then decide (0≤idxF (fun s=>decide (s.name=t.name)) ss) else (isSc t.kind||isVc t.kind)&&decide (t.name=[])
theorem find_at (f:Fl) (ss:List Sct) (hs:ss.length≤1048576) (nm:Str) (h:Heap):doCall E (callR E) 46 [.agg [.int .i64 0,.vs f (scts ss),.vs .nil [],.vs .nil [],.vs .nil [],.vs .nil [],.vs .nil [],.vs .nil [],.vs .nil []],.str nm] h=some (.int .i64 (idxF (fun s=>decide (s.name=nm)) ss),h):=by
  refine Zg (pf:=p46) rfl rfl rfl rfl (by simp [PV.lowL,PV.low,Zk]) (by simp [PV.low,PV.lowL,Zk]) ?_ h
  show kQ E _ (endQ [⟨4,none⟩] _) .norm { lvl:=0,tmps:=mk 9 [(0,.agg [.int .i64 0,.vs f (scts ss),.vs .nil [],.vs .nil [],.vs .nil [],.vs .nil [],.vs .nil [],.vs .nil [],.vs .nil []]),(1,.str nm)],heap:=[[]],defers:=[] }
  repeat' first|(with_reducible first|refine cS ?_ ?_|refine oS ?_ ?_|refine dS ?_ ?_)<;>intro _|((with_reducible refine kk ?_ ?_);·rfl)|simp -implicitDefEqProofs(disch:=first|omega|assumption)only[push_cast,simprocAttr,Zd,Zc,Ze,Zb,ixs_ok,hs]|(with_reducible first|refine cB ?_ ?_|refine oB ?_ ?_|refine dB ?_ ?_)<;>intro _
theorem valid_ok (f:Fl) (ss:List Sct) (hs:ss.length≤1048576) (t:Ty) (h:Heap):doCall E (callR E) 53 [.vs f (scts ss),.agg [.int .i64 t.kind,.str t.name]] h=some (.bool (validF ss t),h):=by
  refine Zg (pf:=p53) rfl rfl rfl rfl (by simp [PV.lowL,PV.low,Zk]) (by simp [PV.low,PV.lowL,Zk]) ?_ h
  show kQ E _ (endQ [⟨4,none⟩] _) .norm { lvl:=0,tmps:=mk 25 [(0,.vs f (scts ss)),(1,.agg [.int .i64 t.kind,.str t.name])],heap:=[[]],defers:=[] }
  by_cases hk:t.kind=8
  · repeat' first|(with_reducible first|refine cS ?_ ?_|refine oS ?_ ?_|refine dS ?_ ?_)<;>intro _|((with_reducible refine kk ?_ ?_);·rfl)|simp -implicitDefEqProofs(disch:=first|omega|assumption)only[push_cast,simprocAttr,Zd,Zc,Ze,Zb,hk,find_at,hs]|(with_reducible first|refine cB ?_ ?_|refine oB ?_ ?_|refine dB ?_ ?_)<;>intro _
    all_goals simp [validF,hk]
  · cases b1:isSc t.kind
    all_goals cases b2:isVc t.kind
    all_goals by_cases hn:t.name=[]
    all_goals
      repeat' first|(with_reducible first|refine cS ?_ ?_|refine oS ?_ ?_|refine dS ?_ ?_)<;>intro _|((with_reducible refine kk ?_ ?_);·rfl)|simp -implicitDefEqProofs(disch:=first|omega|assumption)only[push_cast,simprocAttr,Zd,Zc,Ze,Zb,hk,sc_ok,Y7,b1,b2,binS,Yu,hn]|(with_reducible first|refine cB ?_ ?_|refine oB ?_ ?_|refine dB ?_ ?_)<;>intro _
    all_goals simp [validF,hk,b1,b2,hn]
def namesF:List Str→List Str→Nat→Int × List Str × Nat
  | [],us,c=>(0,us,c)
  | n::r,us,c=>if declF us n=0 then namesF r (insL n us) (c+1) else (13,us,c)
theorem decl_01 {us:List Str} {nm:Str}:declF us nm=0∨declF us nm=13:=by unfold declF;split<;>simp
theorem nms_loop (m:Mod) (l:List Str) (hb:l.length≤1048576) {f:Fl} (o2:List (Option Ob)) (H:Heap) (hlo:LowH H o2) (fin:Int × List Str × Nat) {ks:List KI} {Q:PEx→Fr→Prop}
    (hr:∀ t (us:List Str) (c:Nat),fin=(13,us,c)→look t 4=.int .i64 13→kQ E ks Q .ret { lvl:=H.length+1,tmps:=mk 21 t,heap:=(usO us c::ckO m::o2)::(H++[[]]),defers:=[] })
    (hn:∀ t (us:List Str) (c:Nat),fin=(0,us,c)→kQ E ks Q .norm { lvl:=H.length+1,tmps:=mk 21 t,heap:=(usO us c::ckO m::o2)::(H++[[]]),defers:=[] }) :
    ∀ (rest pre:List Str) (us:List Str) (c:Nat) (t:List (Nat × PV)),l=pre++rest→(namesF rest us c=fin) →
      look t 0=.ptr (0,1) 1 0 0→look t 8=.vs f (strs l)→look t 9=.int .i64 l.length→look t 10=.int .i64 pre.length →
      kQ E (.code p59l0::.blk 0::ks) Q .norm { lvl:=H.length+1,tmps:=mk 21 t,heap:=(usO us c::ckO m::o2)::(H++[[]]),defers:=[] }:=by
  intro rest
  have dq:∀ us c nm,doCall E (callR E) 51 [.ptr (0,1) 1 0 0,.str nm] ((usO us c::ckO m::o2)::(H++[[]]))=some (.int .i64 (declF us nm),(usO (if declF us nm=0 then insL nm us else us) (if declF us nm=0 then c+1 else c)::ckO m::o2)::(H++[[]])):=fun us c nm=>decl_ok m us c nm o2 (H++[[]]) (hlo.push rfl)
  induction rest with
  | nil =>
    intro pre us c t hl hi0 h0 h8 h9 h10
    have e:l.length=pre.length:=by rw [hl];simp
    refine loopK' (c:=p59l0) rfl ?_
    repeat' first|(with_reducible first|refine cS ?_ ?_|refine oS ?_ ?_|refine dS ?_ ?_)<;>intro _|((with_reducible refine kk ?_ ?_);·rfl)|simp -implicitDefEqProofs(disch:=first|omega|assumption)only[push_cast,simprocAttr,Zd,Zc,Ze,Zb,h0,h8,h9,h10,e]|(with_reducible first|refine cB ?_ ?_|refine oB ?_ ?_|refine dB ?_ ?_)<;>intro _
    exact hn _ _ _ hi0.symm
  | cons s r ih =>
    intro pre us c t hl hi0 h0 h8 h9 h10
    have e:l.length=pre.length+r.length+1:=by rw [hl];simp;omega
    have hg:(strs l)[pre.length]?=some (.str s):=by rw [hl];exact Yd _ _ _ _
    rcases decl_01 (us:=us) (nm:=s) with hd|hd
    · refine loopK' (c:=p59l0) rfl ?_
      repeat' first|(with_reducible first|refine cS ?_ ?_|refine oS ?_ ?_|refine dS ?_ ?_)<;>intro _|((with_reducible refine kk ?_ ?_);·rfl)|simp -implicitDefEqProofs(disch:=first|omega|assumption)only[push_cast,simprocAttr,Zd,Zc,Ze,Zb,h0,h8,h9,h10,hg,dq,hd]|(with_reducible first|refine cB ?_ ?_|refine oB ?_ ?_|refine dB ?_ ?_)<;>intro _
      refine ih (pre++[s]) (insL s us) (c+1) _ (by simp [hl]) (by rw [← hi0,namesF,if_pos hd]) (by simp [look,Za,h0]) (by simp [look,Za,h8]) (by simp [look,Za,h9]) (by simp [look,Za,h10])
    · refine loopK' (c:=p59l0) rfl ?_
      repeat' first|(with_reducible first|refine cS ?_ ?_|refine oS ?_ ?_|refine dS ?_ ?_)<;>intro _|((with_reducible refine kk ?_ ?_);·rfl)|simp -implicitDefEqProofs(disch:=first|omega|assumption)only[push_cast,simprocAttr,Zd,Zc,Ze,Zb,h0,h8,h9,h10,hg,dq,hd]|(with_reducible first|refine cB ?_ ?_|refine oB ?_ ?_|refine dB ?_ ?_)<;>intro _
      exact hr _ us c (by rw [← hi0,namesF,hd];rfl) (by simp [look])
theorem names_ok (m:Mod) (l:List Str) (hb:l.length≤1048576) (f:Fl) (us:List Str) (c:Nat) (o2:List (Option Ob)) (H:Heap) (hlo:LowH H o2) :
    doCall E (callR E) 59 [.ptr (0,1) 1 0 0,.vs f (strs l)] ((usO us c::ckO m::o2)::H)=some (.int .i64 (namesF l us c).1,(usO (namesF l us c).2.1 (namesF l us c).2.2::ckO m::o2)::H):=by
  have hr:=hlo.hr
  have ho:=hlo.ho
  have hck:=X5 m H.length
  have hus:=Xl
  refine Z7 (pf:=p59) rfl rfl rfl rfl rfl (by simp [PV.lowL,PV.low]) ?_
  show kQ E _ (endM [⟨4,none⟩] _ _ _) .norm { lvl:=H.length+1,tmps:=mk 21 [(0,.ptr (0,1) 1 0 0),(1,.vs f (strs l))],heap:=(usO us c::ckO m::o2)::(H++[[]]),defers:=[] }
  repeat' first|(with_reducible first|refine cS ?_ ?_|refine oS ?_ ?_|refine dS ?_ ?_)<;>intro _|((with_reducible refine kk ?_ ?_);·rfl)|simp -implicitDefEqProofs(disch:=first|omega|assumption)only[push_cast,simprocAttr,Zd,Zc,Ze,Zb]|(with_reducible first|refine cB ?_ ?_|refine oB ?_ ?_|refine dB ?_ ?_)<;>intro _
  with_reducible refine nms_loop m l hb (f:=f) o2 H hlo (namesF l us c) ?_ ?_ l [] us c _ rfl rfl (by simp [look,Za]) (by simp [look,Za]) (by simp [look,Za]) (by simp [look,Za])
  · intro t us' c' hf h4
    rw [hf]
    repeat' first|(with_reducible first|refine cS ?_ ?_|refine oS ?_ ?_|refine dS ?_ ?_)<;>intro _|((with_reducible refine kk ?_ ?_);·rfl)|simp -implicitDefEqProofs(disch:=first|omega|assumption)only[push_cast,simprocAttr,Zd,Zc,Ze,Zb,h4,Zm,Zn,allMarks,hck,hus,hr,ho,List.all_cons]|(with_reducible first|refine cB ?_ ?_|refine oB ?_ ?_|refine dB ?_ ?_)<;>intro _
  · intro t us' c' hf
    rw [hf]
    repeat' first|(with_reducible first|refine cS ?_ ?_|refine oS ?_ ?_|refine dS ?_ ?_)<;>intro _|((with_reducible refine kk ?_ ?_);·rfl)|simp -implicitDefEqProofs(disch:=first|omega|assumption)only[push_cast,simprocAttr,Zd,Zc,Ze,Zb,Zm,Zn,allMarks,hck,hus,hr,ho,List.all_cons]|(with_reducible first|refine cB ?_ ?_|refine oB ?_ ?_|refine dB ?_ ?_)<;>intro _
def fieldsF (ss:List Sct):List Fld→List Str→Nat→Int × List Str × Nat
  | [],us,c=>(0,us,c)
  | f::r,us,c=>if declF us f.name=0 then (if validF ss f.ty then fieldsF ss r (insL f.name us) (c+1) else (12,insL f.name us,c+1)) else (13,us,c)
set_option maxHeartbeats 2000000 in
theorem flc_loop (m:Mod) (hm:m.Ok) (l:List Fld) (hb:l.length≤1048576) {f:Fl} (o2:List (Option Ob)) (H:Heap) (hlo:LowH H o2) (fin:Int × List Str × Nat) {ks:List KI} {Q:PEx→Fr→Prop}
    (hr:∀ t (us:List Str) (c:Nat) (o0:Option Ob) e,e≠0→fin=(e,us,c)→look t 4=.int .i64 e→kQ E ks Q .ret { lvl:=H.length+1,tmps:=mk 31 t,heap:=(usO us c::ckO m::o2)::(H++[[o0]]),defers:=[] })
    (hn:∀ t (us:List Str) (c:Nat) (o0:Option Ob),fin=(0,us,c)→kQ E ks Q .norm { lvl:=H.length+1,tmps:=mk 31 t,heap:=(usO us c::ckO m::o2)::(H++[[o0]]),defers:=[] }) :
    ∀ (rest pre:List Fld) (us:List Str) (c:Nat) (o0:Option Ob) (t:List (Nat × PV)),l=pre++rest→(fieldsF m.ss rest us c=fin) →
      look t 0=.ptr (0,1) 1 0 0→look t 8=.vs f (flds l)→look t 9=.int .i64 l.length→look t 10=.int .i64 pre.length →
      kQ E (.code p56l0::.blk 0::ks) Q .norm { lvl:=H.length+1,tmps:=mk 31 t,heap:=(usO us c::ckO m::o2)::(H++[[o0]]),defers:=[] }:=by
  intro rest
  have dq:∀ us c (s:Fld) g,doCall E (callR E) 51 [.ptr (0,1) 1 0 0,.str s.name] ((usO us c::ckO m::o2)::(H++[[some (.mem [.agg [.str s.name,.int .i64 s.ty.kind,.str s.ty.name]] g false 3)]]))=some (.int .i64 (declF us s.name),(usO (if declF us s.name=0 then insL s.name us else us) (if declF us s.name=0 then c+1 else c)::ckO m::o2)::(H++[[some (.mem [.agg [.str s.name,.int .i64 s.ty.kind,.str s.ty.name]] g false 3)]])):=fun us c s g=>decl_ok m us c s.name o2 (H++[[some (.mem [.agg [.str s.name,.int .i64 s.ty.kind,.str s.ty.name]] g false 3)]]) (hlo.push rfl)
  have vq:=fun t h=>valid_ok m.sf m.ss hm.ss t h
  have h1':=m.hm
  induction rest with
  | nil =>
    intro pre us c o0 t hl hi0 h0 h8 h9 h10
    have e:l.length=pre.length:=by rw [hl];simp
    refine loopK' (c:=p56l0) rfl ?_
    repeat' first|(with_reducible first|refine cS ?_ ?_|refine oS ?_ ?_|refine dS ?_ ?_)<;>intro _|((with_reducible refine kk ?_ ?_);·rfl)|simp -implicitDefEqProofs(disch:=first|omega|assumption)only[push_cast,simprocAttr,Zd,Zc,Ze,Zb,h0,h8,h9,h10,e]|(with_reducible first|refine cB ?_ ?_|refine oB ?_ ?_|refine dB ?_ ?_)<;>intro _
    exact hn _ _ _ _ hi0.symm
  | cons s r ih =>
    intro pre us c o0 t hl hi0 h0 h8 h9 h10
    have e:l.length=pre.length+r.length+1:=by rw [hl];simp;omega
    have hg:(flds l)[pre.length]?=some (.agg [.str s.name,.int .i64 s.ty.kind,.str s.ty.name]):=by rw [hl];exact Yd _ _ _ _
    rcases decl_01 (us:=us) (nm:=s.name) with hd|hd
    · cases hv:validF m.ss s.ty
      · refine loopK' (c:=p56l0) rfl ?_
        repeat' first|(with_reducible first|refine cS ?_ ?_|refine oS ?_ ?_|refine dS ?_ ?_)<;>intro _|((with_reducible refine kk ?_ ?_);·rfl)|simp -implicitDefEqProofs(disch:=first|omega|assumption)only[push_cast,simprocAttr,Zd,Zc,Ze,Zb,h0,h8,h9,h10,hg,dq,hd,vq,hv]|(with_reducible first|refine cB ?_ ?_|refine oB ?_ ?_|refine dB ?_ ?_)<;>intro _
        exact hr _ _ _ _ 12 (by decide) (by rw [← hi0,fieldsF,hd,hv];rfl) (by simp [look])
      · refine loopK' (c:=p56l0) rfl ?_
        repeat' first|(with_reducible first|refine cS ?_ ?_|refine oS ?_ ?_|refine dS ?_ ?_)<;>intro _|((with_reducible refine kk ?_ ?_);·rfl)|simp -implicitDefEqProofs(disch:=first|omega|assumption)only[push_cast,simprocAttr,Zd,Zc,Ze,Zb,h0,h8,h9,h10,hg,dq,hd,vq,hv]|(with_reducible first|refine cB ?_ ?_|refine oB ?_ ?_|refine dB ?_ ?_)<;>intro _
        refine ih (pre++[s]) (insL s.name us) (c+1) _ _ (by simp [hl]) (by rw [← hi0,fieldsF,hd,hv];rfl) (by simp [look,Za,h0]) (by simp [look,Za,h8]) (by simp [look,Za,h9]) (by simp [look,Za,h10])
    · refine loopK' (c:=p56l0) rfl ?_
      repeat' first|(with_reducible first|refine cS ?_ ?_|refine oS ?_ ?_|refine dS ?_ ?_)<;>intro _|((with_reducible refine kk ?_ ?_);·rfl)|simp -implicitDefEqProofs(disch:=first|omega|assumption)only[push_cast,simprocAttr,Zd,Zc,Ze,Zb,h0,h8,h9,h10,hg,dq,hd]|(with_reducible first|refine cB ?_ ?_|refine oB ?_ ?_|refine dB ?_ ?_)<;>intro _
      exact hr _ us c _ 13 (by decide) (by rw [← hi0,fieldsF,hd];rfl) (by simp [look])
end
section
theorem fields_ok (m:Mod) (hm:m.Ok) (l:List Fld) (hb:l.length≤1048576) (f:Fl) (us:List Str) (c:Nat) (o2:List (Option Ob)) (H:Heap) (hlo:LowH H o2) :
    doCall E (callR E) 56 [.ptr (0,1) 1 0 0,.vs f (flds l)] ((usO us c::ckO m::o2)::H)=some (.int .i64 (fieldsF m.ss l us c).1,(usO (fieldsF m.ss l us c).2.1 (fieldsF m.ss l us c).2.2::ckO m::o2)::H):=by
  have hr:=hlo.hr
  have ho:=hlo.ho
  have hck:=X5 m H.length
  have hus:=Xl
  refine Z7 (pf:=p56) rfl rfl rfl rfl rfl (by simp [PV.lowL,PV.low]) ?_
  show kQ E _ (endM [⟨4,none⟩] _ _ _) .norm { lvl:=H.length+1,tmps:=mk 31 [(0,.ptr (0,1) 1 0 0),(1,.vs f (flds l))],heap:=(usO us c::ckO m::o2)::(H++[[none]]),defers:=[] }
  repeat' first|(with_reducible first|refine cS ?_ ?_|refine oS ?_ ?_|refine dS ?_ ?_)<;>intro _|((with_reducible refine kk ?_ ?_);·rfl)|simp -implicitDefEqProofs(disch:=first|omega|assumption)only[push_cast,simprocAttr,Zd,Zc,Ze,Zb]|(with_reducible first|refine cB ?_ ?_|refine oB ?_ ?_|refine dB ?_ ?_)<;>intro _
  with_reducible refine flc_loop m hm l hb (f:=f) o2 H hlo (fieldsF m.ss l us c) ?_ ?_ l [] us c _ _ rfl rfl (by simp [look,Za]) (by simp [look,Za]) (by simp [look,Za]) (by simp [look,Za])
  · intro t us' c' o0' e he hf h4
    rw [hf]
    repeat' first|(with_reducible first|refine cS ?_ ?_|refine oS ?_ ?_|refine dS ?_ ?_)<;>intro _|((with_reducible refine kk ?_ ?_);·rfl)|simp -implicitDefEqProofs(disch:=first|omega|assumption)only[push_cast,simprocAttr,Zd,Zc,Ze,Zb,h4,Zm,Zn,allMarks,hck,hus,hr,ho,List.all_cons]|(with_reducible first|refine cB ?_ ?_|refine oB ?_ ?_|refine dB ?_ ?_)<;>intro _
  · intro t us' c' o0' hf
    rw [hf]
    repeat' first|(with_reducible first|refine cS ?_ ?_|refine oS ?_ ?_|refine dS ?_ ?_)<;>intro _|((with_reducible refine kk ?_ ?_);·rfl)|simp -implicitDefEqProofs(disch:=first|omega|assumption)only[push_cast,simprocAttr,Zd,Zc,Ze,Zb,Zm,Zn,allMarks,hck,hus,hr,ho,List.all_cons]|(with_reducible first|refine cB ?_ ?_|refine oB ?_ ?_|refine dB ?_ ?_)<;>intro _
structure Clo where
  f:Nat
  a:List PV
  b:List PV
abbrev Clo.v (c:Clo):PV:=.fn c.f c.a c.b
def clos (l:List Clo):List PV:=l.map Clo.v
theorem clos_len {l:List Clo}:(clos l).length=l.length:=by simp [clos]
inductive FirstR (nm:Nm) (g:Nat) (all:List PV) (k:Nat):List Clo→Heap→Int→Heap→Prop
  | nil (h:Heap):FirstR nm g all k [] h 0 h
  | stop (c:Clo) (r:List Clo) (h h1:Heap) (e:Int):doCall E (callR E) c.f (c.a++c.b) (h++[[]])=some (.int .i64 e,h1++[[]])→e≠0→h1.length=k→FirstR nm g all k (c::r) h e h1
  | next (c:Clo) (r:List Clo) (h h1 h2:Heap) (e:Int):doCall E (callR E) c.f (c.a++c.b) (h++[[]])=some (.int .i64 0,h1++[[]])→h1.length=k→hget h1 nm=some (.mem all g false 1)→FirstR nm g all k r h1 e h2→FirstR nm g all k (c::r) h e h2
theorem hg_app {h:Heap} {L:List (Option Ob)} {n:Nm} (hn:n.1<h.length):hget (h++[L]) n=hget h n:=by
  unfold hget
  rw [List.getElem?_append_left hn]
theorem tk_k {h:Heap} {L:List (Option Ob)} {k:Nat} (hk:h.length=k):(h++[L]).take k=h:=by subst hk;exact tk_t
theorem fst_loop (nm:Nm) (g k:Nat) (hk:nm.1<k) (all:List Clo) (hb:all.length≤1048576) (fe:Int) (fh:Heap) {ks:List KI} {Q:PEx→Fr→Prop}
    (hr:∀ t (h:Heap),h=fh→fe≠0→fh.length=k→look t 2=.int .i64 fe→kQ E ks Q .ret { lvl:=k,tmps:=mk 18 t,heap:=h++[[]],defers:=[] })
    (hn:∀ t (h:Heap),h=fh→fe=0→fh.length=k→kQ E ks Q .norm { lvl:=k,tmps:=mk 18 t,heap:=h++[[]],defers:=[] }) :
    ∀ (rest pre:List Clo) (h:Heap) (t:List (Nat × PV)),all=pre++rest→(FirstR nm g (clos all) k rest h fe fh)→(h.length=k)→(hget h nm=some (.mem (clos all) g false 1)) →
      look t 6=.sl nm g 0 all.length→look t 7=.int .i64 all.length→look t 8=.int .i64 pre.length →
      kQ E (.code p32l0::.blk 0::ks) Q .norm { lvl:=k,tmps:=mk 18 t,heap:=h++[[]],defers:=[] }:=by
  intro rest
  induction rest with
  | nil =>
    intro pre h t hl hi0 hi1 hi2 h6 h7 h8
    have e:all.length=pre.length:=by rw [hl];simp
    refine loopK' (c:=p32l0) rfl ?_
    repeat' first|(with_reducible first|refine cS ?_ ?_|refine oS ?_ ?_|refine dS ?_ ?_)<;>intro _|((with_reducible refine kk ?_ ?_);·rfl)|simp -implicitDefEqProofs(disch:=first|omega|assumption)only[push_cast,simprocAttr,Zd,Zc,Ze,Zb,h6,h7,h8,e,clos_len]|(with_reducible first|refine cB ?_ ?_|refine oB ?_ ?_|refine dB ?_ ?_)<;>intro _
    cases hi0
    exact hn _ _ rfl rfl hi1
  | cons s r ih =>
    intro pre h t hl hi0 hi1 hi2 h6 h7 h8
    have e:all.length=pre.length+r.length+1:=by rw [hl];simp;omega
    have hg:(clos all)[pre.length]?=some (.fn s.f s.a s.b):=by rw [hl];exact Yd _ _ _ _
    have hgl:hget (h++[[]]) nm=some (.mem (clos all) g false 1):=by rw [hg_app (by omega),hi2]
    cases hi0 with
    | stop _ _ _ h1 _ hc he hl1 =>
      refine loopK' (c:=p32l0) rfl ?_
      repeat' first|(with_reducible first|refine cS ?_ ?_|refine oS ?_ ?_|refine dS ?_ ?_)<;>intro _|((with_reducible refine kk ?_ ?_);·rfl)|simp -implicitDefEqProofs(disch:=first|omega|assumption)only[push_cast,simprocAttr,Zd,Zc,Ze,Zb,h6,h7,h8,hg,hgl,hc,he]|(with_reducible first|refine cB ?_ ?_|refine oB ?_ ?_|refine dB ?_ ?_)<;>intro _
      exact hr _ _ rfl he hl1 (by simp [look])
    | next _ _ _ h1 _ _ hc hl1 hm1 hrest =>
      refine loopK' (c:=p32l0) rfl ?_
      repeat' first|(with_reducible first|refine cS ?_ ?_|refine oS ?_ ?_|refine dS ?_ ?_)<;>intro _|((with_reducible refine kk ?_ ?_);·rfl)|simp -implicitDefEqProofs(disch:=first|omega|assumption)only[push_cast,simprocAttr,Zd,Zc,Ze,Zb,h6,h7,h8,hg,hgl,hc]|(with_reducible first|refine cB ?_ ?_|refine oB ?_ ?_|refine dB ?_ ?_)<;>intro _
      refine ih (pre++[s]) h1 _ (by simp [hl]) hrest hl1 hm1 (by simp [look,Za,h6]) (by simp [look,Za,h7]) (by simp [look,Za,h8])
end
section
theorem first_ok (nm:Nm) (g:Nat) (all:List Clo) (hb:all.length≤1048576) (e:Int) (h h':Heap) (hk:nm.1<h.length) (hm:hget h nm=some (.mem (clos all) g false 1)) (hF:FirstR nm g (clos all) h.length all h e h') (hlo:heapLow h.length h'=true) :
    doCall E (callR E) 32 [.sl nm g 0 all.length] h=some (.int .i64 e,h'):=by
  have hgl:hget (h++[[]]) nm=some (.mem (clos all) g false 1):=by rw [hg_app hk,hm]
  refine Z7 (pf:=p32) rfl rfl rfl rfl rfl (by simp [PV.lowL,PV.low]) ?_
  show kQ E _ (endM [⟨2,none⟩] _ _ _) .norm { lvl:=h.length,tmps:=mk 18 [(0,.sl nm g 0 all.length)],heap:=h++[[]],defers:=[] }
  repeat' first|(with_reducible first|refine cS ?_ ?_|refine oS ?_ ?_|refine dS ?_ ?_)<;>intro _|((with_reducible refine kk ?_ ?_);·rfl)|simp -implicitDefEqProofs(disch:=first|omega|assumption)only[push_cast,simprocAttr,Zd,Zc,Ze,Zb,hgl]|(with_reducible first|refine cB ?_ ?_|refine oB ?_ ?_|refine dB ?_ ?_)<;>intro _
  with_reducible refine fst_loop nm g h.length hk all hb e h' ?_ ?_ all [] h _ rfl hF rfl hm (by simp [look,Za]) (by simp [look,Za]) (by simp [look,Za])
  · intro t h2 hh he hl h4
    subst hh
    have tk:=tk_k (L:=[]) hl
    repeat' first|(with_reducible first|refine cS ?_ ?_|refine oS ?_ ?_|refine dS ?_ ?_)<;>intro _|((with_reducible refine kk ?_ ?_);·rfl)|simp -implicitDefEqProofs(disch:=first|omega|assumption)only[push_cast,simprocAttr,Zd,Zc,Ze,Zb,h4,Zm,Zn,allMarks,tk,hlo]|(with_reducible first|refine cB ?_ ?_|refine oB ?_ ?_|refine dB ?_ ?_)<;>intro _
  · intro t h2 hh he hl
    subst hh
    have tk:=tk_k (L:=[]) hl
    repeat' first|(with_reducible first|refine cS ?_ ?_|refine oS ?_ ?_|refine dS ?_ ?_)<;>intro _|((with_reducible refine kk ?_ ?_);·rfl)|simp -implicitDefEqProofs(disch:=first|omega|assumption)only[push_cast,simprocAttr,Zd,Zc,Ze,Zb,Zm,Zn,allMarks,tk,hlo,he]|(with_reducible first|refine cB ?_ ?_|refine oB ?_ ?_|refine dB ?_ ?_)<;>intro _
def chainF {σ:Type}:List (σ→Int × σ)→σ→Int × σ
  | [],s=>(0,s)
  | G::r,s=>if (G s).1=0 then chainF r (G s).2 else G s
theorem first_chain {σ:Type} {nm:Nm} {g k:Nat} {all:List PV} (st:σ→Heap) (hl:∀ s,(st s).length=k) (hm:∀ s,hget (st s) nm=some (.mem all g false 1)) :
    ∀ (ps:List (Clo × (σ→Int × σ))),(∀ p∈ps,∀ s,doCall E (callR E) p.1.f (p.1.a++p.1.b) (st s++[[]])=some (.int .i64 (p.2 s).1,st (p.2 s).2++[[]]))→∀ s,FirstR nm g all k (ps.map (·.1)) (st s) (chainF (ps.map (·.2)) s).1 (st (chainF (ps.map (·.2)) s).2)
  | [],_,s=>.nil _
  | p::r,hp,s=>by
    have h1:=hp p (List.mem_cons_self ..) s
    simp only [List.map_cons,chainF]
    by_cases he:(p.2 s).1=0
    · rw [if_pos he]
      rw [he] at h1
      exact .next _ _ _ _ _ _ h1 (hl _) (hm _) (first_chain st hl hm r (fun q hq=>hp q (List.mem_cons_of_mem _ hq)) _)
    · rw [if_neg he]
      exact .stop _ _ _ _ _ h1 he (hl _)
theorem mk113_ok (n:Nm) (g:Nat) (f:Fl) (l:List Fld) (h:Heap) (hn:n.1<h.length) (hlo:heapLow h.length h=true) :
    doCall E (callR E) 54 [.vs f (flds l),.ptr n g 0 0] h=some (.fn 55 [] [.ptr n g 0 0,.ip [.vs f (flds l)]],h):=by
  have hb:Nat.blt n.1 h.length=true:=by simpa [Nat.blt_eq] using hn
  refine Z7 (pf:=p54) rfl rfl rfl rfl rfl (by simp [PV.lowL,PV.low,hb]) ?_
  show kQ E _ (endM [⟨3,none⟩] _ _ _) .norm { lvl:=h.length,tmps:=mk 5 [(0,.vs f (flds l)),(1,.ptr n g 0 0)],heap:=h++[[]],defers:=[] }
  repeat' first|(with_reducible first|refine cS ?_ ?_|refine oS ?_ ?_|refine dS ?_ ?_)<;>intro _|((with_reducible refine kk ?_ ?_);·rfl)|simp -implicitDefEqProofs(disch:=first|omega|assumption)only[push_cast,simprocAttr,Zd,Zc,Ze,Zb,Zm,Zn,allMarks,tk_t,hlo]|(with_reducible first|refine cB ?_ ?_|refine oB ?_ ?_|refine dB ?_ ?_)<;>intro _
theorem mk116_ok (n:Nm) (g:Nat) (f:Fl) (l:List Str) (h:Heap) (hn:n.1<h.length) (hlo:heapLow h.length h=true) :
    doCall E (callR E) 57 [.vs f (strs l),.ptr n g 0 0] h=some (.fn 58 [] [.ptr n g 0 0,.ip [.vs f (strs l)]],h):=by
  have hb:Nat.blt n.1 h.length=true:=by simpa [Nat.blt_eq] using hn
  refine Z7 (pf:=p57) rfl rfl rfl rfl rfl (by simp [PV.lowL,PV.low,hb]) ?_
  show kQ E _ (endM [⟨3,none⟩] _ _ _) .norm { lvl:=h.length,tmps:=mk 5 [(0,.vs f (strs l)),(1,.ptr n g 0 0)],heap:=h++[[]],defers:=[] }
  repeat' first|(with_reducible first|refine cS ?_ ?_|refine oS ?_ ?_|refine dS ?_ ?_)<;>intro _|((with_reducible refine kk ?_ ?_);·rfl)|simp -implicitDefEqProofs(disch:=first|omega|assumption)only[push_cast,simprocAttr,Zd,Zc,Ze,Zb,Zm,Zn,allMarks,tk_t,hlo]|(with_reducible first|refine cB ?_ ?_|refine oB ?_ ?_|refine dB ?_ ?_)<;>intro _
abbrev bxO:Option Ob:=some (.mem [.ptr (0,1) 1 0 0] 1 false 1)
theorem c114_ok (m:Mod) (hm:m.Ok) (l:List Fld) (hb:l.length≤1048576) (f:Fl) (us:List Str) (c:Nat) (o2 A:List (Option Ob)) (H:Heap) (hlo:LowH (H++[bxO::A]++[[]]) o2) :
    doCall E (callR E) 55 [.ptr (H.length+1,0) 1 0 0,.ip [.vs f (flds l)]] ((usO us c::ckO m::o2)::(H++[bxO::A]++[[]]))=some (.int .i64 (fieldsF m.ss l us c).1,(usO (fieldsF m.ss l us c).2.1 (fieldsF m.ss l us c).2.2::ckO m::o2)::(H++[bxO::A]++[[]])):=by
  have hbx:hget (H++[bxO::A]++[[]]++[[]]) (H.length,0)=bxO:=by
    rw [hg_app (by simp),hg_app (by simp),hg_t];rfl
  obtain ⟨G,hG⟩:∃ G,G=H++[bxO::A]++[[]]:=⟨_,rfl⟩
  rw [← hG] at hlo hbx ⊢
  have hr:=hlo.hr
  have ho:=hlo.ho
  have hck:=X5 m G.length
  have hus:=Xl
  have hq:=fields_ok m hm l hb f us c o2 (G++[[]]) (hlo.push rfl)
  refine Z7 (pf:=p55) rfl rfl rfl rfl rfl (by simp [PV.lowL,PV.low]) ?_
  show kQ E _ (endM [⟨2,none⟩] _ _ _) .norm { lvl:=G.length+1,tmps:=mk 6 [(0,.ptr (H.length+1,0) 1 0 0),(1,.ip [.vs f (flds l)])],heap:=(usO us c::ckO m::o2)::(G++[[]]),defers:=[] }
  repeat' first|(with_reducible first|refine cS ?_ ?_|refine oS ?_ ?_|refine dS ?_ ?_)<;>intro _|((with_reducible refine kk ?_ ?_);·rfl)|simp -implicitDefEqProofs(disch:=first|omega|assumption)only[push_cast,simprocAttr,Zd,Zc,Ze,Zb,hbx,hq,Zm,Zn,allMarks,hck,hus,hr,ho,List.all_cons]|(with_reducible first|refine cB ?_ ?_|refine oB ?_ ?_|refine dB ?_ ?_)<;>intro _
theorem c117_ok (m:Mod) (l:List Str) (hb:l.length≤1048576) (f:Fl) (us:List Str) (c:Nat) (o2 A:List (Option Ob)) (H:Heap) (hlo:LowH (H++[bxO::A]++[[]]) o2) :
    doCall E (callR E) 58 [.ptr (H.length+1,0) 1 0 0,.ip [.vs f (strs l)]] ((usO us c::ckO m::o2)::(H++[bxO::A]++[[]]))=some (.int .i64 (namesF l us c).1,(usO (namesF l us c).2.1 (namesF l us c).2.2::ckO m::o2)::(H++[bxO::A]++[[]])):=by
  have hbx:hget (H++[bxO::A]++[[]]++[[]]) (H.length,0)=bxO:=by
    rw [hg_app (by simp),hg_app (by simp),hg_t];rfl
  obtain ⟨G,hG⟩:∃ G,G=H++[bxO::A]++[[]]:=⟨_,rfl⟩
  rw [← hG] at hlo hbx ⊢
  have hr:=hlo.hr
  have ho:=hlo.ho
  have hck:=X5 m G.length
  have hus:=Xl
  have hq:=names_ok m l hb f us c o2 (G++[[]]) (hlo.push rfl)
  refine Z7 (pf:=p58) rfl rfl rfl rfl rfl (by simp [PV.lowL,PV.low]) ?_
  show kQ E _ (endM [⟨2,none⟩] _ _ _) .norm { lvl:=G.length+1,tmps:=mk 6 [(0,.ptr (H.length+1,0) 1 0 0),(1,.ip [.vs f (strs l)])],heap:=(usO us c::ckO m::o2)::(G++[[]]),defers:=[] }
  repeat' first|(with_reducible first|refine cS ?_ ?_|refine oS ?_ ?_|refine dS ?_ ?_)<;>intro _|((with_reducible refine kk ?_ ?_);·rfl)|simp -implicitDefEqProofs(disch:=first|omega|assumption)only[push_cast,simprocAttr,Zd,Zc,Ze,Zb,hbx,hq,Zm,Zn,allMarks,hck,hus,hr,ho,List.all_cons]|(with_reducible first|refine cB ?_ ?_|refine oB ?_ ?_|refine dB ?_ ?_)<;>intro _
end
section
def globF (m:Mod):List Str × Nat→Int × (List Str × Nat) :=
  chainF [fun s=>fieldsF m.ss m.us s.1 s.2,fun s=>namesF m.ts s.1 s.2,fun s=>namesF m.bs s.1 s.2,fun s=>fieldsF m.ss m.ins s.1 s.2,fun s=>fieldsF m.ss m.outs s.1 s.2]
def gClos (m:Mod) (n:Nm):List Clo:=[⟨55,[],[.ptr n 1 0 0,.ip [.vs m.uf (flds m.us)]]⟩,⟨58,[],[.ptr n 1 0 0,.ip [.vs m.tf (strs m.ts)]]⟩,⟨58,[],[.ptr n 1 0 0,.ip [.vs m.bf (strs m.bs)]]⟩,⟨55,[],[.ptr n 1 0 0,.ip [.vs m.nf (flds m.ins)]]⟩,⟨55,[],[.ptr n 1 0 0,.ip [.vs m.of (flds m.outs)]]⟩]
theorem glob_first (m:Mod) (hm:m.Ok) (us:List Str) (c:Nat) (o2:List (Option Ob)) (H:Heap) (hlo:LowH H o2) :
    doCall E (callR E) 32 [.sl (H.length+1,1) 1 0 5] ((usO us c::ckO m::o2)::(H++[[bxO,some (.mem (clos (gClos m (H.length+1,0))) 1 false 1)]]))=some (.int .i64 (globF m (us,c)).1,(usO (globF m (us,c)).2.1 (globF m (us,c)).2.2::ckO m::o2)::(H++[[bxO,some (.mem (clos (gClos m (H.length+1,0))) 1 false 1)]])):=by
  obtain ⟨A,hA⟩:∃ A,A=[some (Ob.mem (clos (gClos m (H.length+1,0))) 1 false 1)]:=⟨_,rfl⟩
  have hlow:LowH (H++[bxO::A]) o2:=hlo.push (by
    rw [hA]
    simp [obLow,PV.lowL,PV.low,clos,gClos,Nat.blt_eq])
  have hlow2:LowH (H++[bxO::A]++[[]]) o2:=hlow.push rfl
  have hall:∀ s:List Str × Nat,hget ((usO s.1 s.2::ckO m::o2)::(H++[bxO::A])) (H.length+1,1)=some (.mem (clos (gClos m (H.length+1,0))) 1 false 1):=by
    intro s
    rw [hg_s,hg_t,hA];rfl
  have hlen:∀ s:List Str × Nat,((usO s.1 s.2::ckO m::o2)::(H++[bxO::A])).length=H.length+2:=by intro s;simp
  have hF:=first_chain (nm:=(H.length+1,1)) (g:=1) (k:=H.length+2) (all:=clos (gClos m (H.length+1,0))) (fun s:List Str × Nat=>(usO s.1 s.2::ckO m::o2)::(H++[bxO::A])) hlen hall
    [(⟨55,[],[.ptr (H.length+1,0) 1 0 0,.ip [.vs m.uf (flds m.us)]]⟩,fun s=>fieldsF m.ss m.us s.1 s.2),(⟨58,[],[.ptr (H.length+1,0) 1 0 0,.ip [.vs m.tf (strs m.ts)]]⟩,fun s=>namesF m.ts s.1 s.2),(⟨58,[],[.ptr (H.length+1,0) 1 0 0,.ip [.vs m.bf (strs m.bs)]]⟩,fun s=>namesF m.bs s.1 s.2),(⟨55,[],[.ptr (H.length+1,0) 1 0 0,.ip [.vs m.nf (flds m.ins)]]⟩,fun s=>fieldsF m.ss m.ins s.1 s.2),(⟨55,[],[.ptr (H.length+1,0) 1 0 0,.ip [.vs m.of (flds m.outs)]]⟩,fun s=>fieldsF m.ss m.outs s.1 s.2)]
    (by
      intro p hp s
      simp only [List.mem_cons,List.not_mem_nil,or_false] at hp
      rcases hp with e|e|e|e|e
      · rw [e];exact c114_ok m hm m.us hm.us m.uf s.1 s.2 o2 A H hlow2
      · rw [e];exact c117_ok m m.ts hm.ts m.tf s.1 s.2 o2 A H hlow2
      · rw [e];exact c117_ok m m.bs hm.bs m.bf s.1 s.2 o2 A H hlow2
      · rw [e];exact c114_ok m hm m.ins hm.ins m.nf s.1 s.2 o2 A H hlow2
      · rw [e];exact c114_ok m hm m.outs hm.outs m.of s.1 s.2 o2 A H hlow2) (us,c)
  have:=first_ok (H.length+1,1) 1 (gClos m (H.length+1,0)) (by simp [gClos]) _ ((usO us c::ckO m::o2)::(H++[bxO::A])) _ (by simp) (hall (us,c)) (by rw [hlen (us,c)];exact hF) (by
    rw [hlen (us,c)]
    have h1:=hlow.hr
    have h2:=hlow.ho
    have e:(H++[bxO::A]).length+1=H.length+2:=by simp
    rw [e] at h1 h2
    show ((usO _ _::ckO m::o2).all (obLow (H.length+2))&&heapLow (H.length+2) (H++[bxO::A]))=true
    rw [h1,List.all_cons,List.all_cons,Xl,X5 m (H.length+1),h2]
    rfl)
  rw [hA] at this
  exact this
set_option maxHeartbeats 4000000 in
theorem globals_ok (m:Mod) (hm:m.Ok) (us:List Str) (c:Nat) (o2:List (Option Ob)) (H:Heap) (hlo:LowH H o2) :
    doCall E (callR E) 35 [.ptr (0,1) 1 0 0] ((usO us c::ckO m::o2)::H)=some (.int .i64 (globF m (us,c)).1,(usO (globF m (us,c)).2.1 (globF m (us,c)).2.2::ckO m::o2)::H):=by
  have hr:=hlo.hr
  have ho:=hlo.ho
  have hck:=X5 m H.length
  have hus:=Xl
  have hlow:LowH (H++[[bxO,none]]) o2:=hlo.push (by simp [obLow,PV.lowL,PV.low,Nat.blt_eq])
  have hl2:heapLow (H.length+2) ((usO us c::ckO m::o2)::(H++[[bxO,none]]))=true:=by
    have h1:=hlow.hr
    have h2:=hlow.ho
    have e:(H++[[bxO,none]]).length+1=H.length+2:=by simp
    rw [e] at h1 h2
    show ((usO _ _::ckO m::o2).all (obLow (H.length+2))&&heapLow (H.length+2) (H++[[bxO,none]]))=true
    rw [h1,List.all_cons,List.all_cons,Xl,X5 m (H.length+1),h2]
    rfl
  have q1:∀ f l,doCall E (callR E) 54 [.vs f (flds l),.ptr (H.length+1,0) 1 0 0] ((usO us c::ckO m::o2)::(H++[[bxO,none]]))=some (.fn 55 [] [.ptr (H.length+1,0) 1 0 0,.ip [.vs f (flds l)]],(usO us c::ckO m::o2)::(H++[[bxO,none]])):=fun f l=>mk113_ok _ _ f l _ (by simp) (by simpa using hl2)
  have q2:∀ f l,doCall E (callR E) 57 [.vs f (strs l),.ptr (H.length+1,0) 1 0 0] ((usO us c::ckO m::o2)::(H++[[bxO,none]]))=some (.fn 58 [] [.ptr (H.length+1,0) 1 0 0,.ip [.vs f (strs l)]],(usO us c::ckO m::o2)::(H++[[bxO,none]])):=fun f l=>mk116_ok _ _ f l _ (by simp) (by simpa using hl2)
  have q3:=glob_first m hm us c o2 H hlo
  simp only [clos,gClos,Clo.v,List.map_cons,List.map_nil] at q3
  refine Z7 (pf:=p35) rfl rfl rfl rfl rfl (by simp [PV.lowL,PV.low]) ?_
  show kQ E _ (endM [⟨2,none⟩] _ _ _) .norm { lvl:=H.length+1,tmps:=mk 44 [(0,.ptr (0,1) 1 0 0)],heap:=(usO us c::ckO m::o2)::(H++[[none,none]]),defers:=[] }
  repeat' first|(with_reducible first|refine cS ?_ ?_|refine oS ?_ ?_|refine dS ?_ ?_)<;>intro _|((with_reducible refine kk ?_ ?_);·rfl)|simp -implicitDefEqProofs(disch:=first|omega|assumption)only[push_cast,simprocAttr,Zd,Zc,Ze,Zb,q1,q2,q3,Zm,Zn,allMarks,hck,hus,hr,ho,List.all_cons,Yv,Yq,Yp,Yo,Yh,Yx,Yi,stabG,stabS,Z1,Yb,Z0,Zt,Zy,Z9,Ya,Zz,Zu,Zp]|(with_reducible first|refine cB ?_ ?_|refine oB ?_ ?_|refine dB ?_ ?_)<;>intro _|with_reducible first|refine Z2 ?_ ?_|refine Z3 (by decide) ?_|refine Z4 (by decide) ?_ ?_|exact Z5|refine Zx ?_|refine Zq ?_
end
section
theorem scts_take {l:List Sct} {n:Nat}:(scts l).take n=scts (l.take n):=by simp [scts,List.map_take]
theorem scts_hd {l:List Sct}:headSz 2 (scts l)=true:=by cases l<;>rfl
def sfF (ss:List Sct):List Fld→List Str→Int
  | [],_=>0
  | f::r,ns=>if declF ns f.name=0 then (if validF ss f.ty then sfF ss r (insL f.name ns) else 12) else 13
abbrev nsO (ns:List Str) (c g:Nat):Option Ob:=some (.map (kE ns) c g)
theorem decl_0 {us:List Str} {nm:Str}:declF us nm=0↔nameF nm=true∧nm ∉ us:=by unfold declF;split<;>simp_all
set_option maxHeartbeats 4000000 in
theorem sfl_loop (m:Mod) (hm:m.Ok) (fs:List Fld) (hb:fs.length≤1048576) {f:Fl} {us:List Str} {c:Nat} {o2:List (Option Ob)} {H:Heap} {sO:Option Ob} {gm:Nat} (i:Nat) (hi:i≤m.ss.length) {v13 v14 v15:PV} (fin:Int) {ks:List KI} {Q:PEx→Fr→Prop}
    (hr:∀ t (ns:List Str) (cn:Nat) (oF:Option Ob),fin≠0→look t 2=.int .i64 fin→kQ E ks Q .ret { lvl:=H.length+1,tmps:=mk 71 t,heap:=(usO us c::ckO m::o2)::(H++[[sO,nsO ns cn gm,oF]]),defers:=[] })
    (hn:∀ t (ns:List Str) (cn:Nat) (oF:Option Ob),fin=0→obLow (H.length+2) oF=true→look t 0=.ptr (0,1) 1 0 0→look t 13=v13→look t 14=v14→look t 15=v15→kQ E ks Q .norm { lvl:=H.length+1,tmps:=mk 71 t,heap:=(usO us c::ckO m::o2)::(H++[[sO,nsO ns cn gm,oF]]),defers:=[] }) :
    ∀ (rest pre:List Fld) (ns:List Str) (cn:Nat) (oF:Option Ob) (t:List (Nat × PV)),fs=pre++rest→(sfF (m.ss.take i) rest ns=fin)→(obLow (H.length+2) oF=true) →
      look t 0=.ptr (0,1) 1 0 0→look t 3=.int .i64 i→look t 6=.map (H.length+1,1) gm→look t 13=v13→look t 14=v14→look t 15=v15→look t 39=.vs f (flds fs)→look t 40=.int .i64 fs.length→look t 41=.int .i64 pre.length →
      kQ E (.code p34l1::.blk 2::ks) Q .norm { lvl:=H.length+1,tmps:=mk 71 t,heap:=(usO us c::ckO m::o2)::(H++[[sO,nsO ns cn gm,oF]]),defers:=[] }:=by
  intro rest
  have vq:=fun f t h=>valid_ok f (m.ss.take i) (Nat.le_trans (List.length_take_le' _ _) hm.ss) t h
  have hss:=hm.ss
  induction rest with
  | nil =>
    intro pre ns cn oF t hl hi0 hi1 h0 h3 h6 h13 h14 h15 h39 h40 h41
    have e:fs.length=pre.length:=by rw [hl];simp
    refine loopK' (c:=p34l1) rfl ?_
    repeat' first|(with_reducible first|refine cS ?_ ?_|refine oS ?_ ?_|refine dS ?_ ?_)<;>intro _|((with_reducible refine kk ?_ ?_);·rfl)|simp -implicitDefEqProofs(disch:=first|omega|assumption)only[push_cast,simprocAttr,Zd,Zc,Ze,Zb,h0,h3,h6,h13,h14,h15,h39,h40,h41,e]|(with_reducible first|refine cB ?_ ?_|refine oB ?_ ?_|refine dB ?_ ?_)<;>intro _
    exact hn _ _ _ _ hi0.symm hi1 (by simp [look,Za,h0]) (by simp [look,Za,h13]) (by simp [look,Za,h14]) (by simp [look,Za,h15])
  | cons s r ih =>
    intro pre ns cn oF t hl hi0 hi1 h0 h3 h6 h13 h14 h15 h39 h40 h41
    have e:fs.length=pre.length+r.length+1:=by rw [hl];simp;omega
    have hg:(flds fs)[pre.length]?=some (.agg [.str s.name,.int .i64 s.ty.kind,.str s.ty.name]):=by rw [hl];exact Yd _ _ _ _
    by_cases hnm:nameF s.name=true
    · by_cases hin:s.name∈ns
      · have hd:declF ns s.name=13:=by simp [declF,hin]
        refine loopK' (c:=p34l1) rfl ?_
        repeat' first|(with_reducible first|refine cS ?_ ?_|refine oS ?_ ?_|refine dS ?_ ?_)<;>intro _|((with_reducible refine kk ?_ ?_);·rfl)|simp -implicitDefEqProofs(disch:=first|omega|assumption)only[push_cast,simprocAttr,Zd,Zc,Ze,Zb,h0,h3,h6,h13,h14,h15,h39,h40,h41,hg,Y0,hnm,keyIs,Yj,hin,Option.getD_some,Option.getD_none]|(with_reducible first|refine cB ?_ ?_|refine oB ?_ ?_|refine dB ?_ ?_)<;>intro _
        have hf:fin=13:=by rw [← hi0,sfF,hd];rfl
        exact hr _ _ _ _ (by omega) (by rw [hf];simp [look])
      · have hd:declF ns s.name=0:=decl_0.2 ⟨hnm,hin⟩
        cases hv:validF (m.ss.take i) s.ty
        · refine loopK' (c:=p34l1) rfl ?_
          repeat' first|(with_reducible first|refine cS ?_ ?_|refine oS ?_ ?_|refine dS ?_ ?_)<;>intro _|((with_reducible refine kk ?_ ?_);·rfl)|simp -implicitDefEqProofs(disch:=first|omega|assumption)only[push_cast,simprocAttr,Zd,Zc,Ze,Zb,h0,h3,h6,h13,h14,h15,h39,h40,h41,hg,Y0,hnm,keyIs,Yj,hin,Option.getD_some,Option.getD_none,boundsE,bound,scts_take,scts_hd,vq,hv]|(with_reducible first|refine cB ?_ ?_|refine oB ?_ ?_|refine dB ?_ ?_)<;>intro _
          have hf:fin=12:=by rw [← hi0,sfF,hd,hv];rfl
          exact hr _ _ _ _ (by omega) (by rw [hf];simp [look])
        · refine loopK' (c:=p34l1) rfl ?_
          repeat' first|(with_reducible first|refine cS ?_ ?_|refine oS ?_ ?_|refine dS ?_ ?_)<;>intro _|((with_reducible refine kk ?_ ?_);·rfl)|simp -implicitDefEqProofs(disch:=first|omega|assumption)only[push_cast,simprocAttr,Zd,Zc,Ze,Zb,h0,h3,h6,h13,h14,h15,h39,h40,h41,hg,Y0,hnm,keyIs,Yj,set_kE,hin,Option.getD_some,Option.getD_none,Option.isSome_none,boundsE,bound,scts_take,scts_hd,vq,hv]|(with_reducible first|refine cB ?_ ?_|refine oB ?_ ?_|refine dB ?_ ?_)<;>intro _
          refine ih (pre++[s]) (insL s.name ns) _ _ _ (by simp [hl]) (by rw [← hi0,sfF,hd,hv];rfl) (by simp [obLow,PV.lowL,PV.low]) (by simp [look,Za,h0]) (by simp [look,Za,h3]) (by simp [look,Za,h6]) (by simp [look,Za,h13]) (by simp [look,Za,h14]) (by simp [look,Za,h15]) (by simp [look,Za,h39]) (by simp [look,Za,h40]) (by simp [look,Za,h41])
    · have hnm:nameF s.name=false:=by simpa using hnm
      have hd:declF ns s.name=13:=by simp [declF,hnm]
      refine loopK' (c:=p34l1) rfl ?_
      repeat' first|(with_reducible first|refine cS ?_ ?_|refine oS ?_ ?_|refine dS ?_ ?_)<;>intro _|((with_reducible refine kk ?_ ?_);·rfl)|simp -implicitDefEqProofs(disch:=first|omega|assumption)only[push_cast,simprocAttr,Zd,Zc,Ze,Zb,h0,h3,h6,h13,h14,h15,h39,h40,h41,hg,Y0,hnm]|(with_reducible first|refine cB ?_ ?_|refine oB ?_ ?_|refine dB ?_ ?_)<;>intro _
      have hf:fin=13:=by rw [← hi0,sfF,hd];rfl
      exact hr _ _ _ _ (by omega) (by rw [hf];simp [look])
end
section
theorem sfl_start (m:Mod) (hm:m.Ok) (fs:List Fld) (hb:fs.length≤1048576) {f:Fl} {us:List Str} {c:Nat} {o2:List (Option Ob)} {H:Heap} {sO:Option Ob} {gm:Nat} (i:Nat) (hi:i≤m.ss.length) {v13 v14 v15:PV} (fin:Int) {ks:List KI} {Q:PEx→Fr→Prop}
    (hr:∀ t (ns:List Str) (cn:Nat) (oF:Option Ob),fin≠0→look t 2=.int .i64 fin→kQ E ks Q .ret { lvl:=H.length+1,tmps:=mk 71 t,heap:=(usO us c::ckO m::o2)::(H++[[sO,nsO ns cn gm,oF]]),defers:=[] })
    (hn:∀ t (ns:List Str) (cn:Nat) (oF:Option Ob),fin=0→obLow (H.length+2) oF=true→look t 0=.ptr (0,1) 1 0 0→look t 13=v13→look t 14=v14→look t 15=v15→kQ E ks Q .norm { lvl:=H.length+1,tmps:=mk 71 t,heap:=(usO us c::ckO m::o2)::(H++[[sO,nsO ns cn gm,oF]]),defers:=[] })
    (oF:Option Ob) (t:List (Nat × PV)) (hf:sfF (m.ss.take i) fs []=fin) (ho:obLow (H.length+2) oF=true) (h0:look t 0=.ptr (0,1) 1 0 0) (h3:look t 3=.int .i64 i) (h6:look t 6=.map (H.length+1,1) gm) (h13:look t 13=v13) (h14:look t 14=v14) (h15:look t 15=v15) (h39:look t 39=.vs f (flds fs)) (h40:look t 40=.int .i64 fs.length) (h41:look t 41=.int .i64 0) :
    kQ E (.code p34l1::.blk 2::ks) Q .norm { lvl:=H.length+1,tmps:=mk 71 t,heap:=(usO us c::ckO m::o2)::(H++[[sO,some (.map [] 0 gm),oF]]),defers:=[] } :=
  sfl_loop m hm fs hb i hi fin hr hn fs [] [] 0 oF t rfl hf ho h0 h3 h6 h13 h14 h15 h39 h40 h41
def structsG:List Sct→List Sct→List Str→Nat→Int × List Str × Nat
  | _,[],us,c=>(0,us,c)
  | pre,s::r,us,c=>if declF us s.name=0 then (if s.fs.length=0∨s.fs.length>16 then (11,insL s.name us,c+1) else if sfF pre s.fs []=0 then structsG (pre++[s]) r (insL s.name us) (c+1) else (sfF pre s.fs [],insL s.name us,c+1)) else (13,us,c)
set_option maxHeartbeats 4000000 in
theorem sou_loop (m:Mod) (hm:m.Ok) (o2:List (Option Ob)) (H:Heap) (hlo:LowH H o2) (fin:Int × List Str × Nat) {ks:List KI} {Q:PEx→Fr→Prop}
    (hr:∀ t (us:List Str) (c:Nat) (o0 o1 oF:Option Ob) e,e≠0→fin=(e,us,c)→look t 2=.int .i64 e→kQ E ks Q .ret { lvl:=H.length+1,tmps:=mk 71 t,heap:=(usO us c::ckO m::o2)::(H++[[o0,o1,oF]]),defers:=[] })
    (hn:∀ t (us:List Str) (c:Nat) (o0 o1 oF:Option Ob),fin=(0,us,c)→kQ E ks Q .norm { lvl:=H.length+1,tmps:=mk 71 t,heap:=(usO us c::ckO m::o2)::(H++[[o0,o1,oF]]),defers:=[] }) :
    ∀ (rest pre:List Sct) (us:List Str) (c:Nat) (o0 o1 oF:Option Ob) (t:List (Nat × PV)),m.ss=pre++rest→(structsG pre rest us c=fin)→(obLow (H.length+2) o1=true)→(obLow (H.length+2) oF=true) →
      look t 0=.ptr (0,1) 1 0 0→look t 13=.vs m.sf (scts m.ss)→look t 14=.int .i64 m.ss.length→look t 15=.int .i64 pre.length →
      kQ E (.code p34l0::.blk 0::ks) Q .norm { lvl:=H.length+1,tmps:=mk 71 t,heap:=(usO us c::ckO m::o2)::(H++[[o0,o1,oF]]),defers:=[] }:=by
  intro rest
  have hss:=hm.ss
  induction rest with
  | nil =>
    intro pre us c o0 o1 oF t hl hi0 hi1 hi2 h0 h13 h14 h15
    have e:m.ss.length=pre.length:=by rw [hl];simp
    refine loopK' (c:=p34l0) rfl ?_
    repeat' first|(with_reducible first|refine cS ?_ ?_|refine oS ?_ ?_|refine dS ?_ ?_)<;>intro _|((with_reducible refine kk ?_ ?_);·rfl)|simp -implicitDefEqProofs(disch:=first|omega|assumption)only[push_cast,simprocAttr,Zd,Zc,Ze,Zb,h0,h13,h14,h15,e]|(with_reducible first|refine cB ?_ ?_|refine oB ?_ ?_|refine dB ?_ ?_)<;>intro _
    exact hn _ _ _ _ _ _ hi0.symm
  | cons s r ih =>
    intro pre us c o0 o1 oF t hl hi0 hi1 hi2 h0 h13 h14 h15
    have e:m.ss.length=pre.length+r.length+1:=by rw [hl];simp;omega
    have hg:(scts m.ss)[pre.length]?=some (.agg [.str s.name,.vs s.fl (flds s.fs)]):=by rw [hl];exact Yd _ _ _ _
    have hf:s.fs.length≤1048576:=hm.sf s (by rw [hl];simp)
    have htk:m.ss.take pre.length=pre:=by rw [hl];simp
    have dq:∀ g,doCall E (callR E) 51 [.ptr (0,1) 1 0 0,.str s.name] ((usO us c::ckO m::o2)::(H++[[some (.mem [.agg [.str s.name,.vs s.fl (flds s.fs)]] g false 2),o1,oF]]))=some (.int .i64 (declF us s.name),(usO (if declF us s.name=0 then insL s.name us else us) (if declF us s.name=0 then c+1 else c)::ckO m::o2)::(H++[[some (.mem [.agg [.str s.name,.vs s.fl (flds s.fs)]] g false 2),o1,oF]])):=fun g=>decl_ok m us c s.name o2 _ (hlo.push (by rw [List.all_cons,List.all_cons,List.all_cons,hi1,hi2];rfl))
    rcases decl_01 (us:=us) (nm:=s.name) with hd|hd
    · by_cases hz:s.fs.length=0
      · refine loopK' (c:=p34l0) rfl ?_
        repeat' first|(with_reducible first|refine cS ?_ ?_|refine oS ?_ ?_|refine dS ?_ ?_)<;>intro _|((with_reducible refine kk ?_ ?_);·rfl)|simp -implicitDefEqProofs(disch:=first|omega|assumption)only[push_cast,simprocAttr,Zd,Zc,Ze,Zb,h0,h13,h14,h15,hg,dq,hd,hz]|(with_reducible first|refine cB ?_ ?_|refine oB ?_ ?_|refine dB ?_ ?_)<;>intro _
        exact hr _ _ _ _ _ _ 11 (by decide) (by rw [← hi0,structsG,if_pos hd,if_pos (.inl hz)]) (by simp [look])
      · by_cases hz2:s.fs.length>16
        · have hz3:¬ (s.fs.length:Int)=0:=by omega
          refine loopK' (c:=p34l0) rfl ?_
          repeat' first|(with_reducible first|refine cS ?_ ?_|refine oS ?_ ?_|refine dS ?_ ?_)<;>intro _|((with_reducible refine kk ?_ ?_);·rfl)|simp -implicitDefEqProofs(disch:=first|omega|assumption)only[push_cast,simprocAttr,Zd,Zc,Ze,Zb,h0,h13,h14,h15,hg,dq,hd,hz3]|(with_reducible first|refine cB ?_ ?_|refine oB ?_ ?_|refine dB ?_ ?_)<;>intro _
          exact hr _ _ _ _ _ _ 11 (by decide) (by rw [← hi0,structsG,if_pos hd,if_pos (.inr hz2)]) (by simp [look])
        · have hz3:¬ (s.fs.length:Int)=0:=by omega
          have hgo:∀ x,structsG pre (s::r) us c=x→(if sfF pre s.fs []=0 then structsG (pre++[s]) r (insL s.name us) (c+1) else (sfF pre s.fs [],insL s.name us,c+1))=x:=by
            intro x hx
            rw [← hx,structsG,if_pos hd,if_neg (c:=s.fs.length=0∨s.fs.length>16) (by omega)]
          refine loopK' (c:=p34l0) rfl ?_
          repeat' first|(with_reducible first|refine cS ?_ ?_|refine oS ?_ ?_|refine dS ?_ ?_)<;>intro _|((with_reducible refine kk ?_ ?_);·rfl)|simp -implicitDefEqProofs(disch:=first|omega|assumption)only[push_cast,simprocAttr,Zd,Zc,Ze,Zb,h0,h13,h14,h15,hg,dq,hd,hz3]|(with_reducible first|refine cB ?_ ?_|refine oB ?_ ?_|refine dB ?_ ?_)<;>intro _
          with_reducible refine sfl_start m hm s.fs hf (f:=s.fl) pre.length (by omega) (v13:=.vs m.sf (scts m.ss)) (v14:=.int .i64 m.ss.length) (v15:=.int .i64 pre.length) (sfF pre s.fs []) ?_ ?_ _ _ (by rw [htk]) hi2 ?_ ?_ ?_ ?_ ?_ ?_ ?_ ?_ ?_
          all_goals first
            | (simp [look,Za,h0,h13,h14,h15];done)
            | skip
          · intro t' ns cn oF' he k2
            exact hr _ _ _ _ _ _ _ he (by rw [← hgo fin hi0,if_neg he]) k2
          · intro t' ns cn oF' he hoF k0 k13 k14 k15
            repeat' first|(with_reducible first|refine cS ?_ ?_|refine oS ?_ ?_|refine dS ?_ ?_)<;>intro _|((with_reducible refine kk ?_ ?_);·rfl)|simp -implicitDefEqProofs(disch:=first|omega|assumption)only[push_cast,simprocAttr,Zd,Zc,Ze,Zb,k0,k13,k14,k15]|(with_reducible first|refine cB ?_ ?_|refine oB ?_ ?_|refine dB ?_ ?_)<;>intro _
            refine ih (pre++[s]) (insL s.name us) (c+1) _ _ _ _ (by simp [hl]) (by rw [← hgo fin hi0,if_pos he]) (kE_low _ _) hoF (by simp [look,Za,k0]) (by simp [look,Za,k13]) (by simp [look,Za,k14]) (by simp [look,Za])
    · refine loopK' (c:=p34l0) rfl ?_
      repeat' first|(with_reducible first|refine cS ?_ ?_|refine oS ?_ ?_|refine dS ?_ ?_)<;>intro _|((with_reducible refine kk ?_ ?_);·rfl)|simp -implicitDefEqProofs(disch:=first|omega|assumption)only[push_cast,simprocAttr,Zd,Zc,Ze,Zb,h0,h13,h14,h15,hg,dq,hd]|(with_reducible first|refine cB ?_ ?_|refine oB ?_ ?_|refine dB ?_ ?_)<;>intro _
      exact hr _ _ _ _ _ _ 13 (by decide) (by rw [← hi0,structsG,if_neg (by omega)]) (by simp [look])
def structsF (m:Mod) (us:List Str) (c:Nat):Int × List Str × Nat:=structsG [] m.ss us c
theorem structs_ok (m:Mod) (hm:m.Ok) (us:List Str) (c:Nat) (o2:List (Option Ob)) (H:Heap) (hlo:LowH H o2) :
    doCall E (callR E) 34 [.ptr (0,1) 1 0 0] ((usO us c::ckO m::o2)::H)=some (.int .i64 (structsF m us c).1,(usO (structsF m us c).2.1 (structsF m us c).2.2::ckO m::o2)::H):=by
  have hr:=hlo.hr
  have ho:=hlo.ho
  have hck:=X5 m H.length
  have hus:=Xl
  refine Z7 (pf:=p34) rfl rfl rfl rfl rfl (by simp [PV.lowL,PV.low]) ?_
  show kQ E _ (endM [⟨2,none⟩] _ _ _) .norm { lvl:=H.length+1,tmps:=mk 71 [(0,.ptr (0,1) 1 0 0)],heap:=(usO us c::ckO m::o2)::(H++[[none,none,none]]),defers:=[] }
  repeat' first|(with_reducible first|refine cS ?_ ?_|refine oS ?_ ?_|refine dS ?_ ?_)<;>intro _|((with_reducible refine kk ?_ ?_);·rfl)|simp -implicitDefEqProofs(disch:=first|omega|assumption)only[push_cast,simprocAttr,Zd,Zc,Ze,Zb]|(with_reducible first|refine cB ?_ ?_|refine oB ?_ ?_|refine dB ?_ ?_)<;>intro _
  with_reducible refine sou_loop m hm o2 H hlo (structsF m us c) ?_ ?_ m.ss [] us c _ _ _ _ rfl rfl rfl rfl (by simp [look,Za]) (by simp [look,Za]) (by simp [look,Za]) (by simp [look,Za])
  · intro t us' c' o0' o1' oF' e he hf h2
    rw [hf]
    repeat' first|(with_reducible first|refine cS ?_ ?_|refine oS ?_ ?_|refine dS ?_ ?_)<;>intro _|((with_reducible refine kk ?_ ?_);·rfl)|simp -implicitDefEqProofs(disch:=first|omega|assumption)only[push_cast,simprocAttr,Zd,Zc,Ze,Zb,h2,Zm,Zn,allMarks,hck,hus,hr,ho,List.all_cons]|(with_reducible first|refine cB ?_ ?_|refine oB ?_ ?_|refine dB ?_ ?_)<;>intro _
  · intro t us' c' o0' o1' oF' hf
    rw [hf]
    repeat' first|(with_reducible first|refine cS ?_ ?_|refine oS ?_ ?_|refine dS ?_ ?_)<;>intro _|((with_reducible refine kk ?_ ?_);·rfl)|simp -implicitDefEqProofs(disch:=first|omega|assumption)only[push_cast,simprocAttr,Zd,Zc,Ze,Zb,Zm,Zn,allMarks,hck,hus,hr,ho,List.all_cons]|(with_reducible first|refine cB ?_ ?_|refine oB ?_ ?_|refine dB ?_ ?_)<;>intro _
end
section
def manyF (m:Mod):Int:=max (max (max (max (m.ss.length:Int) m.us.length) m.ins.length) m.outs.length) m.fs.length
def limB (m:Mod):Bool:=decide (nodesF m>1000)||(decide (depthF m>16)||(decide (manyF m>16)||(decide ((m.ts.length:Int)>4)||decide ((m.bs.length:Int)>4))))
def limF (m:Mod):Int:=if m.stage<1∨m.stage>3 then 10 else whenF (limB m) 5
set_option maxHeartbeats 4000000 in
theorem limits_ok (m:Mod) (hm:m.Ok) (hz:m.OkZ) (us:List Str) (c:Nat) (o2:List (Option Ob)) (H:Heap) (hlo:LowH H o2) :
    doCall E (callR E) 33 [.ptr (0,1) 1 0 0] ((usO us c::ckO m::o2)::H)=some (.int .i64 (limF m),(usO us c::ckO m::o2)::H):=by
  have hr:=hlo.hr
  have ho:=hlo.ho
  have hck:=X5 m H.length
  have hus:=Xl
  have h1:=m.hm
  have q1:=fun h=>nodes_ok m hm hz h
  have q2:=fun h=>depth_ok m hm hz h
  have g1:=hm.ss
  have g2:=hm.us
  have g3:=hm.ins
  have g4:=hm.outs
  have g5:=hm.fs
  refine Z7 (pf:=p33) rfl rfl rfl rfl rfl (by simp [PV.lowL,PV.low]) ?_
  show kQ E _ (endM [⟨2,none⟩] _ _ _) .norm { lvl:=H.length+1,tmps:=mk 58 [(0,.ptr (0,1) 1 0 0)],heap:=(usO us c::ckO m::o2)::(H++[[none]]),defers:=[] }
  by_cases s1:m.stage<1
  · repeat' first|(with_reducible first|refine cS ?_ ?_|refine oS ?_ ?_|refine dS ?_ ?_)<;>intro _|((with_reducible refine kk ?_ ?_);·rfl)|simp -implicitDefEqProofs(disch:=first|omega|assumption)only[push_cast,simprocAttr,Zd,Zc,Ze,Zb,s1,Zm,Zn,allMarks,hck,hus,hr,ho,List.all_cons]|(with_reducible first|refine cB ?_ ?_|refine oB ?_ ?_|refine dB ?_ ?_)<;>intro _
    all_goals simp [limF,s1]
  by_cases s2:m.stage>3
  · repeat' first|(with_reducible first|refine cS ?_ ?_|refine oS ?_ ?_|refine dS ?_ ?_)<;>intro _|((with_reducible refine kk ?_ ?_);·rfl)|simp -implicitDefEqProofs(disch:=first|omega|assumption)only[push_cast,simprocAttr,Zd,Zc,Ze,Zb,s1,s2,Zm,Zn,allMarks,hck,hus,hr,ho,List.all_cons]|(with_reducible first|refine cB ?_ ?_|refine oB ?_ ?_|refine dB ?_ ?_)<;>intro _
    all_goals simp [limF,s1,s2]
  have e0:limF m=whenF (limB m) 5:=by rw [limF,if_neg (by omega)]
  rw [e0]
  by_cases b1:nodesF m>1000
  · repeat' first|(with_reducible first|refine cS ?_ ?_|refine oS ?_ ?_|refine dS ?_ ?_)<;>intro _|((with_reducible refine kk ?_ ?_);·rfl)|simp -implicitDefEqProofs(disch:=first|omega|assumption)only[push_cast,simprocAttr,Zd,Zc,Ze,Zb,s1,s2,q1,q2,b1,Yk,h1,Yf,Xx,Zm,Zn,allMarks,hck,hus,hr,ho,List.all_cons]|(with_reducible first|refine cB ?_ ?_|refine oB ?_ ?_|refine dB ?_ ?_)<;>intro _
    all_goals simp [limB,b1]
  by_cases b2:depthF m>16
  · repeat' first|(with_reducible first|refine cS ?_ ?_|refine oS ?_ ?_|refine dS ?_ ?_)<;>intro _|((with_reducible refine kk ?_ ?_);·rfl)|simp -implicitDefEqProofs(disch:=first|omega|assumption)only[push_cast,simprocAttr,Zd,Zc,Ze,Zb,s1,s2,q1,q2,b1,b2,Yk,h1,Yf,Xx,Zm,Zn,allMarks,hck,hus,hr,ho,List.all_cons]|(with_reducible first|refine cB ?_ ?_|refine oB ?_ ?_|refine dB ?_ ?_)<;>intro _
    all_goals simp [limB,b1,b2]
  by_cases b3:manyF m>16
  · have b3':=b3
    unfold manyF at b3'
    repeat' first|(with_reducible first|refine cS ?_ ?_|refine oS ?_ ?_|refine dS ?_ ?_)<;>intro _|((with_reducible refine kk ?_ ?_);·rfl)|simp -implicitDefEqProofs(disch:=first|omega|assumption)only[push_cast,simprocAttr,Zd,Zc,Ze,Zb,s1,s2,q1,q2,b1,b2,b3',Yk,h1,Yf,Xx,Zm,Zn,allMarks,hck,hus,hr,ho,List.all_cons]|(with_reducible first|refine cB ?_ ?_|refine oB ?_ ?_|refine dB ?_ ?_)<;>intro _
    all_goals simp [limB,b1,b2,b3]
  have b3':=b3
  unfold manyF at b3'
  by_cases b4:(m.ts.length:Int)>4
  · repeat' first|(with_reducible first|refine cS ?_ ?_|refine oS ?_ ?_|refine dS ?_ ?_)<;>intro _|((with_reducible refine kk ?_ ?_);·rfl)|simp -implicitDefEqProofs(disch:=first|omega|assumption)only[push_cast,simprocAttr,Zd,Zc,Ze,Zb,s1,s2,q1,q2,b1,b2,b3',b4,Yk,h1,Yf,Xx,Zm,Zn,allMarks,hck,hus,hr,ho,List.all_cons]|(with_reducible first|refine cB ?_ ?_|refine oB ?_ ?_|refine dB ?_ ?_)<;>intro _
    all_goals simp [limB,b1,b2,b3,b4]
  by_cases b5:(m.bs.length:Int)>4
  · repeat' first|(with_reducible first|refine cS ?_ ?_|refine oS ?_ ?_|refine dS ?_ ?_)<;>intro _|((with_reducible refine kk ?_ ?_);·rfl)|simp -implicitDefEqProofs(disch:=first|omega|assumption)only[push_cast,simprocAttr,Zd,Zc,Ze,Zb,s1,s2,q1,q2,b1,b2,b3',b4,b5,Yk,h1,Yf,Xx,Zm,Zn,allMarks,hck,hus,hr,ho,List.all_cons]|(with_reducible first|refine cB ?_ ?_|refine oB ?_ ?_|refine dB ?_ ?_)<;>intro _
    all_goals simp [limB,b1,b2,b3,b4,b5]
  · repeat' first|(with_reducible first|refine cS ?_ ?_|refine oS ?_ ?_|refine dS ?_ ?_)<;>intro _|((with_reducible refine kk ?_ ?_);·rfl)|simp -implicitDefEqProofs(disch:=first|omega|assumption)only[push_cast,simprocAttr,Zd,Zc,Ze,Zb,s1,s2,q1,q2,b1,b2,b3',b4,b5,Yk,h1,Yf,Xx,Zm,Zn,allMarks,hck,hus,hr,ho,List.all_cons]|(with_reducible first|refine cB ?_ ?_|refine oB ?_ ?_|refine dB ?_ ?_)<;>intro _
    all_goals simp [limB,b1,b2,b3,b4,b5]
end
section
def totB (m:Mod):Bool:=decide (totF m m.us>64)||(decide (totF m m.ins>32)||decide (totF m m.outs>32))
set_option maxHeartbeats 4000000 in
theorem totals_ok (m:Mod) (hm:m.Ok) (us:List Str) (c:Nat) (o2:List (Option Ob)) (H:Heap) (hlo:LowH H o2) :
    doCall E (callR E) 36 [.ptr (0,1) 1 0 0] ((usO us c::ckO m::o2)::H)=some (.int .i64 (whenF (totB m) 5),(usO us c::ckO m::o2)::H):=by
  have hr:=hlo.hr
  have ho:=hlo.ho
  have hck:=X5 m H.length
  have hus:=Xl
  have h1:=m.hm
  have q1:=fun h=>total_ok m hm m.uf m.us hm.us h
  have q2:=fun h=>total_ok m hm m.nf m.ins hm.ins h
  have q3:=fun h=>total_ok m hm m.of m.outs hm.outs h
  refine Z7 (pf:=p36) rfl rfl rfl rfl rfl (by simp [PV.lowL,PV.low]) ?_
  show kQ E _ (endM [⟨2,none⟩] _ _ _) .norm { lvl:=H.length+1,tmps:=mk 28 [(0,.ptr (0,1) 1 0 0)],heap:=(usO us c::ckO m::o2)::(H++[[none]]),defers:=[] }
  by_cases b1:totF m m.us>64
  · repeat' first|(with_reducible first|refine cS ?_ ?_|refine oS ?_ ?_|refine dS ?_ ?_)<;>intro _|((with_reducible refine kk ?_ ?_);·rfl)|simp -implicitDefEqProofs(disch:=first|omega|assumption)only[push_cast,simprocAttr,Zd,Zc,Ze,Zb,q1,b1,Yk,h1,Zm,Zn,allMarks,hck,hus,hr,ho,List.all_cons]|(with_reducible first|refine cB ?_ ?_|refine oB ?_ ?_|refine dB ?_ ?_)<;>intro _
    all_goals simp [totB,b1]
  by_cases b2:totF m m.ins>32
  · repeat' first|(with_reducible first|refine cS ?_ ?_|refine oS ?_ ?_|refine dS ?_ ?_)<;>intro _|((with_reducible refine kk ?_ ?_);·rfl)|simp -implicitDefEqProofs(disch:=first|omega|assumption)only[push_cast,simprocAttr,Zd,Zc,Ze,Zb,q1,q2,b1,b2,Yk,h1,Zm,Zn,allMarks,hck,hus,hr,ho,List.all_cons]|(with_reducible first|refine cB ?_ ?_|refine oB ?_ ?_|refine dB ?_ ?_)<;>intro _
    all_goals simp [totB,b1,b2]
  by_cases b3:totF m m.outs>32
  · repeat' first|(with_reducible first|refine cS ?_ ?_|refine oS ?_ ?_|refine dS ?_ ?_)<;>intro _|((with_reducible refine kk ?_ ?_);·rfl)|simp -implicitDefEqProofs(disch:=first|omega|assumption)only[push_cast,simprocAttr,Zd,Zc,Ze,Zb,q1,q2,q3,b1,b2,b3,Yk,h1,Zm,Zn,allMarks,hck,hus,hr,ho,List.all_cons]|(with_reducible first|refine cB ?_ ?_|refine oB ?_ ?_|refine dB ?_ ?_)<;>intro _
    all_goals simp [totB,b1,b2,b3]
  · repeat' first|(with_reducible first|refine cS ?_ ?_|refine oS ?_ ?_|refine dS ?_ ?_)<;>intro _|((with_reducible refine kk ?_ ?_);·rfl)|simp -implicitDefEqProofs(disch:=first|omega|assumption)only[push_cast,simprocAttr,Zd,Zc,Ze,Zb,q1,q2,q3,b1,b2,b3,Yk,h1,Zm,Zn,allMarks,hck,hus,hr,ho,List.all_cons]|(with_reducible first|refine cB ?_ ?_|refine oB ?_ ?_|refine dB ?_ ?_)<;>intro _
    all_goals simp [totB,b1,b2,b3]
def Mod.win (m:Mod) (i:Nat):Mod:={ m with of:=.nil,outs:=[],ff:=if m.ff=.nil then .nil else if m.ff.full&&Nat.beq i m.fs.length then .clip else .any,fs:=m.fs.take i }
theorem funs_take {l:List Fun'} {n:Nat}:(funs l).take n=funs (l.take n):=by simp [funs,List.map_take]
theorem funs_hd {l:List Fun'}:headSz 10 (funs l)=true:=by
  cases l with
  | nil=>rfl
  | cons f r =>
    show Nat.beq (PV.cells f.v).length 10=true
    rw [f.v10];rfl
theorem win_ok (m:Mod) (i:Nat) (hi:i≤m.fs.length) (h:Heap):doCall E (callR E) 61 [.agg m.c,.int .i64 i] h=some (.agg (m.win i).c,h):=by
  have h1:=m.hm
  have hb:bound (.int .i64 i) m.fs.length=some i:=by simp [bound,hi]
  refine Zg (pf:=p61) rfl rfl rfl rfl (by simp [PV.lowL,PV.low,Zj,Zi,Zk,Zl,h1]) (by simp [PV.low,PV.lowL,Zj,Zi,Zk,Zl,h1]) ?_ h
  show kQ E _ (endQ [⟨4,some (some 9)⟩] _) .norm { lvl:=0,tmps:=mk 12 [(0,.agg m.c),(1,.int .i64 i)],heap:=[[none,none]],defers:=[] }
  repeat' first|(with_reducible first|refine cS ?_ ?_|refine oS ?_ ?_|refine dS ?_ ?_)<;>intro _|((with_reducible refine kk ?_ ?_);·rfl)|simp -implicitDefEqProofs(disch:=first|omega|assumption)only[push_cast,simprocAttr,Zd,Zc,Ze,Zb,h1,boundsE,hb,funs_hd,funs_take]|(with_reducible first|refine cB ?_ ?_|refine oB ?_ ?_|refine dB ?_ ?_)<;>intro _
  all_goals simp [Mod.win,Mod.main,Mod.c,Fl.full]
  all_goals rfl
def rootF:Ex→Str × Bool
  | .mk k _ nm _ _ []=>if k=4 then (nm,true) else ([],false)
  | .mk k _ nm _ _ (a::_)=>if k=4 then (nm,true) else if k=8∨k=9 then rootF a else ([],false)
theorem root_ok:∀ (n:Nat) (e:Ex),e.size≤n→∀ h,doCall E (callR E) 161 [.agg e.c] h=some (.tuple [.str (rootF e).1,.bool (rootF e).2],h)
  | 0,.mk k o nm x fl as,hn,_=>by simp [Ex.size] at hn
  | n+1,.mk k o nm x fl as,hn,h=>by
    have hsz:1+sizeL as≤n+1:=by simpa [Ex.size] using hn
    have he:(Ex.mk k o nm x fl as).c=[.int .i64 k,.int .i64 o,.str nm,.int .i64 x,.vs fl (exs as)]:=by simp [Ex.c]
    rw [he]
    by_cases k4:k=4
    · subst k4
      have hx:rootF (.mk 4 o nm x fl as)=(nm,true):=by cases as<;>simp [rootF]
      rw [hx]
      refine Zg (pf:=p161) rfl rfl rfl rfl (by simp [PV.lowL,PV.low,Zo]) (by simp [PV.low,PV.lowL,Zo]) ?_ h
      show kQ E _ (endQ [⟨2,none⟩,⟨3,none⟩] _) .norm { lvl:=0,tmps:=mk 32 [(0,.agg [.int .i64 4,.int .i64 o,.str nm,.int .i64 x,.vs fl (exs as)])],heap:=[[]],defers:=[] }
      repeat' first|(with_reducible first|refine cS ?_ ?_|refine oS ?_ ?_|refine dS ?_ ?_)<;>intro _|((with_reducible refine kk ?_ ?_);·rfl)|simp -implicitDefEqProofs(disch:=first|omega|assumption)only[push_cast,simprocAttr,Zd,Zc,Ze,Zb]|(with_reducible first|refine cB ?_ ?_|refine oB ?_ ?_|refine dB ?_ ?_)<;>intro _
    · cases as with
      | nil =>
        have hx:rootF (.mk k o nm x fl [])=([],false):=by simp [rootF,k4]
        rw [hx]
        by_cases k8:k=8
        · subst k8
          refine Zg (pf:=p161) rfl rfl rfl rfl (by simp [PV.lowL,PV.low,Zo]) (by simp [PV.low,PV.lowL,Zo]) ?_ h
          show kQ E _ (endQ [⟨2,none⟩,⟨3,none⟩] _) .norm { lvl:=0,tmps:=mk 32 [(0,.agg [.int .i64 8,.int .i64 o,.str nm,.int .i64 x,.vs fl (exs [])])],heap:=[[]],defers:=[] }
          repeat' first|(with_reducible first|refine cS ?_ ?_|refine oS ?_ ?_|refine dS ?_ ?_)<;>intro _|((with_reducible refine kk ?_ ?_);·rfl)|simp -implicitDefEqProofs(disch:=first|omega|assumption)only[push_cast,simprocAttr,Zd,Zc,Ze,Zb,exs]|(with_reducible first|refine cB ?_ ?_|refine oB ?_ ?_|refine dB ?_ ?_)<;>intro _
        · by_cases k9:k=9
          · subst k9
            refine Zg (pf:=p161) rfl rfl rfl rfl (by simp [PV.lowL,PV.low,Zo]) (by simp [PV.low,PV.lowL,Zo]) ?_ h
            show kQ E _ (endQ [⟨2,none⟩,⟨3,none⟩] _) .norm { lvl:=0,tmps:=mk 32 [(0,.agg [.int .i64 9,.int .i64 o,.str nm,.int .i64 x,.vs fl (exs [])])],heap:=[[]],defers:=[] }
            repeat' first|(with_reducible first|refine cS ?_ ?_|refine oS ?_ ?_|refine dS ?_ ?_)<;>intro _|((with_reducible refine kk ?_ ?_);·rfl)|simp -implicitDefEqProofs(disch:=first|omega|assumption)only[push_cast,simprocAttr,Zd,Zc,Ze,Zb,exs]|(with_reducible first|refine cB ?_ ?_|refine oB ?_ ?_|refine dB ?_ ?_)<;>intro _
          ·
            refine Zg (pf:=p161) rfl rfl rfl rfl (by simp [PV.lowL,PV.low,Zo]) (by simp [PV.low,PV.lowL,Zo]) ?_ h
            show kQ E _ (endQ [⟨2,none⟩,⟨3,none⟩] _) .norm { lvl:=0,tmps:=mk 32 [(0,.agg [.int .i64 k,.int .i64 o,.str nm,.int .i64 x,.vs fl (exs [])])],heap:=[[]],defers:=[] }
            repeat' first|(with_reducible first|refine cS ?_ ?_|refine oS ?_ ?_|refine dS ?_ ?_)<;>intro _|((with_reducible refine kk ?_ ?_);·rfl)|simp -implicitDefEqProofs(disch:=first|omega|assumption)only[push_cast,simprocAttr,Zd,Zc,Ze,Zb,exs,k4,k8,k9]|(with_reducible first|refine cB ?_ ?_|refine oB ?_ ?_|refine dB ?_ ?_)<;>intro _
      | cons a r =>
        have hq:=fun h=>root_ok n a (by simp only [sizeL] at hsz;omega) h
        have ha:=a.c_eq
        rw [ha] at hq
        have hl:((exs r).length:Int)+1>0:=by omega
        by_cases k8:k=8
        · subst k8
          have hx:rootF (.mk 8 o nm x fl (a::r))=rootF a:=by simp [rootF]
          rw [hx]
          refine Zg (pf:=p161) rfl rfl rfl rfl (by simp [PV.lowL,PV.low,Zo]) (by simp [PV.low,PV.lowL,Zo]) ?_ h
          show kQ E _ (endQ [⟨2,none⟩,⟨3,none⟩] _) .norm { lvl:=0,tmps:=mk 32 [(0,.agg [.int .i64 8,.int .i64 o,.str nm,.int .i64 x,.vs fl (exs (a::r))])],heap:=[[]],defers:=[] }
          repeat' first|(with_reducible first|refine cS ?_ ?_|refine oS ?_ ?_|refine dS ?_ ?_)<;>intro _|((with_reducible refine kk ?_ ?_);·rfl)|simp -implicitDefEqProofs(disch:=first|omega|assumption)only[push_cast,simprocAttr,Zd,Zc,Ze,Zb,exs,ha,hq,hl]|(with_reducible first|refine cB ?_ ?_|refine oB ?_ ?_|refine dB ?_ ?_)<;>intro _
        · by_cases k9:k=9
          · subst k9
            have hx:rootF (.mk 9 o nm x fl (a::r))=rootF a:=by simp [rootF]
            rw [hx]
            refine Zg (pf:=p161) rfl rfl rfl rfl (by simp [PV.lowL,PV.low,Zo]) (by simp [PV.low,PV.lowL,Zo]) ?_ h
            show kQ E _ (endQ [⟨2,none⟩,⟨3,none⟩] _) .norm { lvl:=0,tmps:=mk 32 [(0,.agg [.int .i64 9,.int .i64 o,.str nm,.int .i64 x,.vs fl (exs (a::r))])],heap:=[[]],defers:=[] }
            repeat' first|(with_reducible first|refine cS ?_ ?_|refine oS ?_ ?_|refine dS ?_ ?_)<;>intro _|((with_reducible refine kk ?_ ?_);·rfl)|simp -implicitDefEqProofs(disch:=first|omega|assumption)only[push_cast,simprocAttr,Zd,Zc,Ze,Zb,exs,ha,hq,hl]|(with_reducible first|refine cB ?_ ?_|refine oB ?_ ?_|refine dB ?_ ?_)<;>intro _
          · have hx:rootF (.mk k o nm x fl (a::r))=([],false):=by simp [rootF,k4,k8,k9]
            rw [hx]
            refine Zg (pf:=p161) rfl rfl rfl rfl (by simp [PV.lowL,PV.low,Zo]) (by simp [PV.low,PV.lowL,Zo]) ?_ h
            show kQ E _ (endQ [⟨2,none⟩,⟨3,none⟩] _) .norm { lvl:=0,tmps:=mk 32 [(0,.agg [.int .i64 k,.int .i64 o,.str nm,.int .i64 x,.vs fl (exs (a::r))])],heap:=[[]],defers:=[] }
            repeat' first|(with_reducible first|refine cS ?_ ?_|refine oS ?_ ?_|refine dS ?_ ?_)<;>intro _|((with_reducible refine kk ?_ ?_);·rfl)|simp -implicitDefEqProofs(disch:=first|omega|assumption)only[push_cast,simprocAttr,Zd,Zc,Ze,Zb,exs,ha,k4,k8,k9,hl]|(with_reducible first|refine cB ?_ ?_|refine oB ?_ ?_|refine dB ?_ ?_)<;>intro _
end
end Go.VI.S
