/- Chapter 28: the memory of the checker of a body; its expressions. -/
import Derived.Test.YtjhaldbohblieaaGreatDoorMC
import Derived.Test.YtjhaldbohblieaaGreatDoorVi49
set_option maxRecDepth 100000
set_option linter.unusedSimpArgs false
set_option linter.unusedVariables false
set_option linter.unusedSectionVars false
namespace Go.VI.S
open Go.VI
section
attribute [push_cast] zg_b zs_b zg_t zg_m zs_t zd_t zt_t
abbrev bdC (m:Mod) (K g n:Nat) (fl:Fl) (la:List Fld) (ps:Int) (mn:Bool) (lo dp:Int):List PV :=
  [.int .i64 m.stage,.vs m.sf (scts m.ss),.vs m.uf (flds m.us),.vs m.tf (strs m.ts),.vs m.bf (strs m.bs),.vs m.nf (flds m.ins),.vs m.of (flds m.outs),.vs m.ff (funs m.fs),.vs m.mf m.main,.sl (K,0) g 0 n,.vs fl (flds la),.int .i64 ps,.bool mn,.int .i64 lo,.int .i64 dp,.map (K,1) 1]
abbrev bdL (m:Mod) (K:Nat) (gs:List Str) (cg:Nat) (ps:Int) (mn:Bool) (B3:List (Option Ob)) (el:List Fld) (g n:Nat) (fl:Fl) (la:List Fld) (lo dp:Int):List (Option Ob) :=
  some (.mem (flds el) g true 3)::some (.map (kE gs) cg 1)::some (.mem [.agg (bdC m K g n fl la ps mn lo dp)] 1 false 16)::B3
structure LowZ (h0 r:Heap) (B3:List (Option Ob)):Prop where
  hh:heapLow (h0.length+1+r.length) h0=true
  hr:heapLow (h0.length+1+r.length) r=true
  hb:B3.all (obLow (h0.length+1+r.length))=true
theorem Ug (m:Mod) {K k:Nat} (hK:K<k) {gs:List Str} {cg:Nat} {ps:Int} {mn:Bool} {B3:List (Option Ob)} (hb:B3.all (obLow k)=true) (el:List Fld) (g n:Nat) (fl:Fl) (la:List Fld) (lo dp:Int):(bdL m K gs cg ps mn B3 el g n fl la lo dp).all (obLow k)=true:=by
  have h1:=PV.lowL_k (k:=k) _ m.hm
  have h2:=Xl gs cg k
  have h3:Nat.blt K k=true:=by simpa [Nat.blt_eq] using hK
  simp only [List.all_cons,hb,Bool.and_true]
  rw [h2]
  simp [obLow,PV.lowL,PV.low,h1,h3]
theorem LowZ.all {h0 r:Heap} {B3:List (Option Ob)} (h:LowZ h0 r B3) (m:Mod) {gs:List Str} {cg:Nat} {ps:Int} {mn:Bool} (el:List Fld) (g n:Nat) (fl:Fl) (la:List Fld) (lo dp:Int) :
    heapLow (h0.length+1+r.length) (h0++bdL m h0.length gs cg ps mn B3 el g n fl la lo dp::r)=true:=by
  have hb:=Ug m (K:=h0.length) (k:=h0.length+1+r.length) (by omega) (gs:=gs) (cg:=cg) (ps:=ps) (mn:=mn) h.hb el g n fl la lo dp
  have h1:=h.hh
  have h2:=h.hr
  unfold heapLow at h1 h2 ⊢
  rw [List.all_append,List.all_cons,h1,h2,hb]
  rfl
theorem LowZ.push {h0 r:Heap} {B3 L:List (Option Ob)} (h:LowZ h0 r B3) (hL:L.all (obLow (h0.length+1+r.length+1))=true):LowZ h0 (r++[L]) B3:=by
  have e:h0.length+1+(r++[L]).length=h0.length+1+r.length+1:=by simp;omega
  refine ⟨by rw [e];exact heapLow_s h.hh,?_,by rw [e];exact all_s h.hb⟩
  rw [e]
  have h1:=heapLow_s h.hr
  unfold heapLow at h1 ⊢
  rw [List.all_append,h1]
  simp only [List.all_cons,List.all_nil,Bool.and_true,Bool.true_and]
  exact hL
theorem Uv (m:Mod) (hm:m.Ok) {nm:Nm} {g n:Nat} {el:List Fld} (hn:n≤el.length) (hb:n≤1048576) (e:Ex) (he:e.size≤1048576) {h:Heap} (hg:hget h nm=some (.mem (flds el) g true 3)) :
    doCall E (callR E) 63 [.agg m.c,.sl nm g 0 n,.agg e.c] h=some (encR (exprF m (el.take n) e),h):=by
  have h1:=m.hm
  have he2:=e.low
  have ht:(flds el).take n=flds (el.take n):=by simp [flds,List.map_take]
  refine call_snap (pf:=p63) (args':=[.agg m.c,.vs .any (flds (el.take n)),.agg e.c]) rfl rfl (by simp [PV.lowL,PV.low,Zj,Zi,Zk,Zl,h1]<;>rfl) ?_ (by simp [PV.lowL,PV.low,Zj,Zi,Zk,Zl,h1,he2]) (exprtype_ok _ e (Nat.le_refl _) he m hm .any _ (by simp;omega) _) rfl
  have hlt:¬ (Nat.blt nm.1 0=true):=by simp [Nat.blt,Nat.ble]
  simp [mapO,snap,PV.low,PV.lowL,Zj,Zi,Zk,Zl,h1,hg,flds_len,ht,he2,hn,hlt]
theorem Rq {nm:Nm} {g n:Nat} {el:List Fld} (hn:n≤el.length) (hb:n≤1048576) (s:Str) {h:Heap} (hg:hget h nm=some (.mem (flds el) g true 3)) :
    doCall E (callR E) 119 [.sl nm g 0 n,.str s] h=some (.int .i64 (fdF (el.take n) s),h):=by
  have ht:(flds el).take n=flds (el.take n):=by simp [flds,List.map_take]
  refine call_snap (pf:=p119) (args':=[.vs .any (flds (el.take n)),.str s]) rfl rfl (by simp [PV.lowL,PV.low]<;>rfl) ?_ (by simp [PV.lowL,PV.low]) (Xt .any _ (by simp;omega) s _) rfl
  have hlt:¬ (Nat.blt nm.1 0=true):=by simp [Nat.blt,Nat.ble]
  simp [mapO,snap,PV.low,PV.lowL,hg,flds_len,ht,hn,hlt]
def Wq (m:Mod) (sc:List Fld) (e:Ex) (w:Ty):Int:=if (exprF m sc e).2≠0 then (exprF m sc e).2 else whenF (decide ((exprF m sc e).1≠w)) 12
section
variable (m:Mod) (hm:m.Ok) (gs:List Str) (cg:Nat) (ps:Int) (mn:Bool) (B3:List (Option Ob)) (h0:Heap)
include hm
set_option maxHeartbeats 4000000 in
theorem Vm (r:Heap) (hz:LowZ h0 r B3) (el:List Fld) (g n:Nat) (fl:Fl) (la:List Fld) (lo dp:Int) (hn:n≤el.length) (hb:n≤1048576) (e:Ex) (he:e.size≤1048576) (w:Ty) :
    doCall E (callR E) 120 [.ptr (h0.length,2) 1 0 0,.agg e.c,.agg [.int .i64 w.kind,.str w.name]] (h0++bdL m h0.length gs cg ps mn B3 el g n fl la lo dp::r)=some (.int .i64 (Wq m (el.take n) e w),h0++bdL m h0.length gs cg ps mn B3 el g n fl la lo dp::r):=by
  have hlow:=hz.all m (gs:=gs) (cg:=cg) (ps:=ps) (mn:=mn) el g n fl la lo dp
  have h1:=m.hm
  have ha:=e.c_eq
  have hq:∀ L:List (Option Ob),doCall E (callR E) 63 [.agg m.c,.sl (h0.length,0) g 0 n,.agg e.c] (h0++bdL m h0.length gs cg ps mn B3 el g n fl la lo dp::(r++[L]))=some (encR (exprF m (el.take n) e),h0++bdL m h0.length gs cg ps mn B3 el g n fl la lo dp::(r++[L])):=fun L=>Uv m hm hn hb e he (by rw [zg_b];rfl)
  obtain ⟨tk,tn,er,hx⟩:∃ tk tn er,exprF m (el.take n) e=(⟨tk,tn⟩,er):=⟨_,_,_,rfl⟩
  obtain ⟨wk,wn⟩:=w
  rw [ha,hx] at hq
  rw [ha,show Wq m (el.take n) e ⟨wk,wn⟩=if er≠0 then er else whenF (decide ((⟨tk,tn⟩:Ty)≠⟨wk,wn⟩)) 12 by rw [Wq,hx]]
  refine call_impZ (pf:=p120) rfl rfl rfl rfl rfl (by simp [PV.low]) ?_
  show kQ E _ (endM [⟨6,none⟩] _ _ _) .norm { lvl:=h0.length+1+r.length,tmps:=mk 29 [(0,.ptr (h0.length,2) 1 0 0),(1,.agg [.int .i64 e.kind,.int .i64 e.op,.str e.name,.int .i64 e.value,.vs e.fl (exs e.args)]),(2,.agg [.int .i64 wk,.str wn])],heap:=h0++bdL m h0.length gs cg ps mn B3 el g n fl la lo dp::(r++[[none]]),defers:=[] }
  have pu63:pureB E 63=true:=rfl
  by_cases he0:er=0
  · subst he0
    by_cases hk:tk=wk
    · subst hk
      by_cases hw:tn=wn
      · subst hw
        repeat' first|(with_reducible first|refine cS ?_ ?_|refine oS ?_ ?_|refine dS ?_ ?_)<;>intro _|((with_reducible refine kk ?_ ?_);·rfl)|simp -implicitDefEqProofs(disch:=first|omega|assumption)only[push_cast,simprocAttr,Zd,Zc,Ze,Zb,h1,hq,Yk,Zm,allMarks,hlow]|(with_reducible first|refine cB ?_ ?_|refine oB ?_ ?_|refine dB ?_ ?_)<;>intro _
        all_goals simp
      · repeat' first|(with_reducible first|refine cS ?_ ?_|refine oS ?_ ?_|refine dS ?_ ?_)<;>intro _|((with_reducible refine kk ?_ ?_);·rfl)|simp -implicitDefEqProofs(disch:=first|omega|assumption)only[push_cast,simprocAttr,Zd,Zc,Ze,Zb,h1,hq,hw,Yu,Yk,Zm,allMarks,hlow]|(with_reducible first|refine cB ?_ ?_|refine oB ?_ ?_|refine dB ?_ ?_)<;>intro _
        all_goals simp [hw]
    · repeat' first|(with_reducible first|refine cS ?_ ?_|refine oS ?_ ?_|refine dS ?_ ?_)<;>intro _|((with_reducible refine kk ?_ ?_);·rfl)|simp -implicitDefEqProofs(disch:=first|omega|assumption)only[push_cast,simprocAttr,Zd,Zc,Ze,Zb,h1,hq,hk,Yk,Zm,allMarks,hlow]|(with_reducible first|refine cB ?_ ?_|refine oB ?_ ?_|refine dB ?_ ?_)<;>intro _
      all_goals simp [hk]
  · repeat' first|(with_reducible first|refine cS ?_ ?_|refine oS ?_ ?_|refine dS ?_ ?_)<;>intro _|((with_reducible refine kk ?_ ?_);·rfl)|simp -implicitDefEqProofs(disch:=first|omega|assumption)only[push_cast,simprocAttr,Zd,Zc,Ze,Zb,h1,hq,he0,Zm,allMarks,hlow]|(with_reducible first|refine cB ?_ ?_|refine oB ?_ ?_|refine dB ?_ ?_)<;>intro _
    all_goals simp [he0]
end
end
section
def Ro (m:Mod) (ps:Int) (sc:List Fld) (nm:Str):Bool :=
  (decide (0≤fdF sc nm)&&decide (fdF sc nm<ps))||(decide (fdF sc nm<0)&&(decide (0≤fdF m.us nm)||decide (0≤fdF m.ins nm)))
def T7 (m:Mod) (ps:Int) (sc:List Fld) (s:St):Int :=
  if (rootF s.target).2=false then 10 else if (exprF m sc s.target).2≠0 then (exprF m sc s.target).2 else if Ro m ps sc (rootF s.target).1=true then 13 else Wq m sc s.value (exprF m sc s.target).1
section
variable (m:Mod) (hm:m.Ok) (gs:List Str) (cg:Nat) (ps:Int) (mn:Bool) (B3:List (Option Ob)) (h0:Heap)
include hm
set_option maxHeartbeats 8000000 in
theorem Uh (r:Heap) (hz:LowZ h0 r B3) (el:List Fld) (g n:Nat) (fl:Fl) (la:List Fld) (lo dp:Int) (hn:n≤el.length) (hb:n≤1048576) (s:St) (hs:s.sz≤1048576) :
    doCall E (callR E) 121 [.ptr (h0.length,2) 1 0 0,s.v17] (h0++bdL m h0.length gs cg ps mn B3 el g n fl la lo dp::r)=some (.int .i64 (T7 m ps (el.take n) s),h0++bdL m h0.length gs cg ps mn B3 el g n fl la lo dp::r):=by
  have hlow:=hz.all m (gs:=gs) (cg:=cg) (ps:=ps) (mn:=mn) el g n fl la lo dp
  have hsz:=s.sz_eq
  have h1:=m.hm
  have ha:=s.target.c_eq
  have hv:=s.value.c_eq
  have g1:=hm.us
  have g2:=hm.ins
  have hq:∀ L:List (Option Ob),doCall E (callR E) 63 [.agg m.c,.sl (h0.length,0) g 0 n,.agg s.target.c] (h0++bdL m h0.length gs cg ps mn B3 el g n fl la lo dp::(r++[L]))=some (encR (exprF m (el.take n) s.target),h0++bdL m h0.length gs cg ps mn B3 el g n fl la lo dp::(r++[L])):=fun L=>Uv m hm hn hb s.target (by omega) (by rw [zg_b];rfl)
  have hf:∀ (L:List (Option Ob)) nm,doCall E (callR E) 119 [.sl (h0.length,0) g 0 n,.str nm] (h0++bdL m h0.length gs cg ps mn B3 el g n fl la lo dp::(r++[L]))=some (.int .i64 (fdF (el.take n) nm),h0++bdL m h0.length gs cg ps mn B3 el g n fl la lo dp::(r++[L])):=fun L nm=>Rq hn hb nm (by rw [zg_b];rfl)
  have hr:=fun h=>root_ok _ s.target (Nat.le_refl _) h
  have hx:∀ (tk:Int) (tn:Str),doCall E (callR E) 120 [.ptr (h0.length,2) 1 0 0,.agg s.value.c,.agg [.int .i64 tk,.str tn]] (h0++bdL m h0.length gs cg ps mn B3 el g n fl la lo dp::(r++[[some (.mem [.agg [.int .i64 tk,.str tn]] 1 false 2)]]))=some (.int .i64 (Wq m (el.take n) s.value ⟨tk,tn⟩),h0++bdL m h0.length gs cg ps mn B3 el g n fl la lo dp::(r++[[some (.mem [.agg [.int .i64 tk,.str tn]] 1 false 2)]])) :=
    fun tk tn=>Vm m hm gs cg ps mn B3 h0 _ (hz.push (by simp [obLow,PV.lowL,PV.low])) el g n fl la lo dp hn hb s.value (by omega) ⟨tk,tn⟩
  rw [ha] at hq hr
  rw [hv] at hx
  obtain ⟨rn,rb,hrt⟩:∃ rn rb,rootF s.target=(rn,rb):=⟨_,_,rfl⟩
  obtain ⟨tk,tn,er,het⟩:∃ tk tn er,exprF m (el.take n) s.target=(⟨tk,tn⟩,er):=⟨_,_,_,rfl⟩
  have hbd:=Xq (fun x:Fld=>decide (x.name=rn)) (el.take n)
  have hbd1:=Xq (fun x:Fld=>decide (x.name=rn)) m.us
  have hbd2:=Xq (fun x:Fld=>decide (x.name=rn)) m.ins
  rw [show T7 m ps (el.take n) s=if rb=false then 10 else if er≠0 then er else if Ro m ps (el.take n) rn=true then 13 else Wq m (el.take n) s.value ⟨tk,tn⟩ by rw [T7,hrt,het]]
  rw [hrt] at hr
  rw [het] at hq
  obtain ⟨D,hD⟩:∃ D,D=fdF (el.take n) rn:=⟨_,rfl⟩
  obtain ⟨U,hU⟩:∃ U,U=fdF m.us rn:=⟨_,rfl⟩
  obtain ⟨I,hI⟩:∃ I,I=fdF m.ins rn:=⟨_,rfl⟩
  have hfD:=fun L=>hf L rn
  have hfU:=fun h=>Xt m.uf m.us g1 rn h
  have hfI:=fun h=>Xt m.nf m.ins g2 rn h
  rw [show fdF (el.take n) rn=D from hD.symm] at hfD
  rw [show fdF m.us rn=U from hU.symm] at hfU
  rw [show fdF m.ins rn=I from hI.symm] at hfI
  have hbb:Ro m ps (el.take n) rn=((decide (0≤D)&&decide (D<ps))||(decide (D<0)&&(decide (0≤U)||decide (0≤I)))):=by rw [Ro,hD,hU,hI]
  rw [hbb]
  clear hf hbb
  refine call_impZ (pf:=p121) rfl rfl rfl rfl rfl (by simp [PV.low]) ?_
  show kQ E _ (endM [⟨4,none⟩] _ _ _) .norm { lvl:=h0.length+1+r.length,tmps:=mk 80 [(0,.ptr (h0.length,2) 1 0 0),(1,s.v17)],heap:=h0++bdL m h0.length gs cg ps mn B3 el g n fl la lo dp::(r++[[none]]),defers:=[] }
  have pu63:pureB E 63=true:=rfl
  cases rb
  · repeat' first|(with_reducible first|refine cS ?_ ?_|refine oS ?_ ?_|refine dS ?_ ?_)<;>intro _|((with_reducible refine kk ?_ ?_);·rfl)|simp -implicitDefEqProofs(disch:=first|omega|assumption)only[push_cast,simprocAttr,Zd,Zc,Ze,Zb,hr,Zm,allMarks,hlow]|(with_reducible first|refine cB ?_ ?_|refine oB ?_ ?_|refine dB ?_ ?_)<;>intro _
    all_goals rfl
  by_cases he0:er=0
  · subst he0
    by_cases d0:D<0
    · have d1:¬ (D≥0):=by omega
      by_cases u0:U≥0
      · repeat' first|(with_reducible first|refine cS ?_ ?_|refine oS ?_ ?_|refine dS ?_ ?_)<;>intro _|((with_reducible refine kk ?_ ?_);·rfl)|simp -implicitDefEqProofs(disch:=first|omega|assumption)only[push_cast,simprocAttr,Zd,Zc,Ze,Zb,hr,h1,hq,hfD,hfU,d0,d1,u0,Zm,allMarks,hlow]|(with_reducible first|refine cB ?_ ?_|refine oB ?_ ?_|refine dB ?_ ?_)<;>intro _
        all_goals simp [d0,u0]
      · by_cases i0:I≥0
        · repeat' first|(with_reducible first|refine cS ?_ ?_|refine oS ?_ ?_|refine dS ?_ ?_)<;>intro _|((with_reducible refine kk ?_ ?_);·rfl)|simp -implicitDefEqProofs(disch:=first|omega|assumption)only[push_cast,simprocAttr,Zd,Zc,Ze,Zb,hr,h1,hq,hfD,hfU,hfI,d0,d1,u0,i0,Zm,allMarks,hlow]|(with_reducible first|refine cB ?_ ?_|refine oB ?_ ?_|refine dB ?_ ?_)<;>intro _
          all_goals simp [d0,i0]
        · repeat' first|(with_reducible first|refine cS ?_ ?_|refine oS ?_ ?_|refine dS ?_ ?_)<;>intro _|((with_reducible refine kk ?_ ?_);·rfl)|simp -implicitDefEqProofs(disch:=first|omega|assumption)only[push_cast,simprocAttr,Zd,Zc,Ze,Zb,hr,h1,hq,hfD,hfU,hfI,hx,d0,d1,u0,i0,Zm,allMarks,hlow]|(with_reducible first|refine cB ?_ ?_|refine oB ?_ ?_|refine dB ?_ ?_)<;>intro _
          all_goals (have:¬ (0≤D):=by omega)<;>simp [this,u0,i0]
    · have d1:D≥0:=by omega
      by_cases p0:D<ps
      · repeat' first|(with_reducible first|refine cS ?_ ?_|refine oS ?_ ?_|refine dS ?_ ?_)<;>intro _|((with_reducible refine kk ?_ ?_);·rfl)|simp -implicitDefEqProofs(disch:=first|omega|assumption)only[push_cast,simprocAttr,Zd,Zc,Ze,Zb,hr,h1,hq,hfD,d0,d1,p0,Zm,allMarks,hlow]|(with_reducible first|refine cB ?_ ?_|refine oB ?_ ?_|refine dB ?_ ?_)<;>intro _
        all_goals simp [d1,p0]
      · repeat' first|(with_reducible first|refine cS ?_ ?_|refine oS ?_ ?_|refine dS ?_ ?_)<;>intro _|((with_reducible refine kk ?_ ?_);·rfl)|simp -implicitDefEqProofs(disch:=first|omega|assumption)only[push_cast,simprocAttr,Zd,Zc,Ze,Zb,hr,h1,hq,hfD,hx,d0,d1,p0,Zm,allMarks,hlow]|(with_reducible first|refine cB ?_ ?_|refine oB ?_ ?_|refine dB ?_ ?_)<;>intro _
        all_goals simp [d0,p0]
  · repeat' first|(with_reducible first|refine cS ?_ ?_|refine oS ?_ ?_|refine dS ?_ ?_)<;>intro _|((with_reducible refine kk ?_ ?_);·rfl)|simp -implicitDefEqProofs(disch:=first|omega|assumption)only[push_cast,simprocAttr,Zd,Zc,Ze,Zb,hr,h1,hq,he0,Zm,allMarks,hlow]|(with_reducible first|refine cB ?_ ?_|refine oB ?_ ?_|refine dB ?_ ?_)<;>intro _
    all_goals simp [he0]
end
end
section
theorem Y5 {l:List Fld}:headSz 3 (flds l)=true:=by cases l<;>rfl
theorem Xr {l:List Fld} {n:Nat}:(flds l).take n=flds (l.take n):=by simp [flds,List.map_take]
theorem Xs {l:List Fld} {n:Nat}:(flds l).drop n=flds (l.drop n):=by simp [flds,List.map_drop]
theorem Vb:∀ {l:List Fld},PV.norefL (flds l)=true
  | []=>rfl
  | f::r=>by
    have:=Vb (l:=r)
    simp only [flds,List.map_cons,PV.norefL,PV.noref,Bool.true_and] at this ⊢
    exact this
theorem Th:E.pf 87=some p87:=rfl
theorem Tg:p87.pure=true:=rfl
theorem Vk (l:List Fld) (hl:l.length≤1048576):callR E 87 [.vs .nn (flds l)] []=some (.sl (0,0) 1 0 l.length,[[some (.mem (flds l) 1 true 3)]]):=by
  refine call_raw (pf:=p87) rfl rfl rfl ?_
  show kQ E _ (endF [⟨2,none⟩] _ _) .norm { lvl:=0,tmps:=mk 8 [(0,.vs .nn (flds l))],heap:=[[none]],defers:=[] }
  repeat' first|(with_reducible first|refine cS ?_ ?_|refine oS ?_ ?_|refine dS ?_ ?_)<;>intro _|((with_reducible refine kk ?_ ?_);·rfl)|simp -implicitDefEqProofs(disch:=first|omega|assumption)only[push_cast,simprocAttr,Zd,Zc,Ze,Zb,isNil,Y5,endF_ret]|(with_reducible first|refine cB ?_ ?_|refine oB ?_ ?_|refine dB ?_ ?_)<;>intro _
theorem W4 {L:List PV}:nilRes L (callR E 87 [.vs .nil []] [])=true:=by
  have:callR E 87 [.vs .nil []] []=some (.vs .nil [],[[none]]):=by
    refine call_raw (pf:=p87) rfl rfl rfl ?_
    show kQ E _ (endF [⟨2,none⟩] _ _) .norm { lvl:=0,tmps:=mk 8 [(0,.vs .nil [])],heap:=[[none]],defers:=[] }
    repeat' first|(with_reducible first|refine cS ?_ ?_|refine oS ?_ ?_|refine dS ?_ ?_)<;>intro _|((with_reducible refine kk ?_ ?_);·rfl)|simp -implicitDefEqProofs(disch:=first|omega|assumption)only[push_cast,simprocAttr,Zd,Zc,Ze,Zb,isNil,endF_ret]|(with_reducible first|refine cB ?_ ?_|refine oB ?_ ?_|refine dB ?_ ?_)<;>intro _
  rw [this]
  simp [nilRes]
abbrev bxB (K:Nat):Option Ob:=some (.mem [.ptr (K,2) 1 0 0] 1 false 1)
abbrev waO (w:Nat):Option Ob:=some (.mem [.int .i64 w] 1 false 1)
section
variable (m:Mod) (gs:List Str) (cg:Nat) (ps:Int) (mn:Bool) (B3:List (Option Ob)) (h0:Heap)
set_option maxHeartbeats 4000000 in
theorem Tx (r:Heap) (A:List (Option Ob)) (hz:LowZ h0 (r++[bxB h0.length::A]) B3) (el:List Fld) (g n:Nat) (fl:Fl) (la:List Fld) (lo dp:Int) (h1:0≤lo) (h2:lo≤1048576) :
    dfrR E 162 [.ptr (h0.length+1+r.length,0) 1 0 0] (h0++bdL m h0.length gs cg ps mn B3 el g n fl la (lo+1) dp::(r++[bxB h0.length::A])) (.tuple []) (h0++bdL m h0.length gs cg ps mn B3 el g n fl la lo dp::(r++[bxB h0.length::A])):=by
  have hlow:=hz.all m (gs:=gs) (cg:=cg) (ps:=ps) (mn:=mn) el g n fl la lo dp
  have hbx:∀ B,hget (h0++B::((r++[bxB h0.length::A])++[[]])) (h0.length+1+r.length,0)=bxB h0.length:=fun B=>by rw [zg_m];rfl
  generalize r++[bxB h0.length::A]=G at *
  have e1:lo+1 - 1=lo:=by omega
  refine dfr_of (pf:=p162) rfl rfl rfl rfl rfl rfl ?_
  show kQ E _ (endG _ _) .norm { lvl:=h0.length+1+G.length,tmps:=mk 8 [(0,.ptr (h0.length+1+r.length,0) 1 0 0)],heap:=h0++bdL m h0.length gs cg ps mn B3 el g n fl la (lo+1) dp::(G++[[]]),defers:=[] }
  repeat' first|(with_reducible first|refine cS ?_ ?_|refine oS ?_ ?_|refine dS ?_ ?_)<;>intro _|((with_reducible refine kk ?_ ?_);·rfl)|simp -implicitDefEqProofs(disch:=first|omega|assumption)only[push_cast,simprocAttr,Zd,Zc,Ze,Zb,hbx,e1,endG_norm,hlow]|(with_reducible first|refine cB ?_ ?_|refine oB ?_ ?_|refine dB ?_ ?_)<;>intro _
set_option maxHeartbeats 4000000 in
theorem Rj (r:Heap) (A:List (Option Ob)) (w:Nat) (hz:LowZ h0 (r++[bxB h0.length::waO w::A]) B3) (el:List Fld) (g n:Nat) (fl:Fl) (la:List Fld) (lo dp:Int) (h1:1≤dp) (h2:dp≤16777216) (hw:w≤n) (hn:n≤el.length) (hb:n≤1048576) :
    dfrR E 89 [.ptr (h0.length+1+r.length,0) 1 0 0,.ptr (h0.length+1+r.length,1) 1 0 0] (h0++bdL m h0.length gs cg ps mn B3 el g n fl la lo (dp+1)::(r++[bxB h0.length::waO w::A])) (.tuple []) (h0++bdL m h0.length gs cg ps mn B3 el g w fl la lo dp::(r++[bxB h0.length::waO w::A])):=by
  have hlow:=hz.all m (gs:=gs) (cg:=cg) (ps:=ps) (mn:=mn) el g w fl la lo dp
  have hbx:∀ B,hget (h0++B::((r++[bxB h0.length::waO w::A])++[[]])) (h0.length+1+r.length,0)=bxB h0.length:=fun B=>by rw [zg_m];rfl
  have hwa:∀ B,hget (h0++B::((r++[bxB h0.length::waO w::A])++[[]])) (h0.length+1+r.length,1)=waO w:=fun B=>by rw [zg_m];rfl
  generalize r++[bxB h0.length::waO w::A]=G at *
  have e1:dp+1 - 1=dp:=by omega
  have e2:¬ dp=0:=by omega
  have e3:bound (.int .i64 w) n=some w:=by simp [bound,hw]
  refine dfr_of (pf:=p89) rfl rfl rfl rfl rfl rfl ?_
  show kQ E _ (endG _ _) .norm { lvl:=h0.length+1+G.length,tmps:=mk 33 [(0,.ptr (h0.length+1+r.length,0) 1 0 0),(1,.ptr (h0.length+1+r.length,1) 1 0 0)],heap:=h0++bdL m h0.length gs cg ps mn B3 el g n fl la lo (dp+1)::(G++[[]]),defers:=[] }
  repeat' first|(with_reducible first|refine cS ?_ ?_|refine oS ?_ ?_|refine dS ?_ ?_)<;>intro _|((with_reducible refine kk ?_ ?_);·rfl)|simp -implicitDefEqProofs(disch:=first|omega|assumption)only[push_cast,simprocAttr,Zd,Zc,Ze,Zb,hbx,hwa,e1,e2,e3,boundsE,Y5,hn,endG_norm,hlow,Option.isNone_none,Option.isNone_some,Option.isSome_none,Option.isSome_some,stabG,stabS,Z1,Yb,Z0,Zt,Zy,Z9,Ya,Zz,Zu,Zp]|(with_reducible first|refine cB ?_ ?_|refine oB ?_ ?_|refine dB ?_ ?_)<;>intro _|with_reducible first|refine Z2 ?_ ?_|refine Z3 (by decide) ?_|refine Z4 (by decide) ?_ ?_|exact Z5|refine Zx ?_|refine Zq ?_
set_option maxHeartbeats 4000000 in
theorem T1 (r:Heap) (A:List (Option Ob)) (w:Nat) (hz:LowZ h0 (r++[bxB h0.length::waO w::A]) B3) (el:List Fld) (g n:Nat) (fl:Fl) (la:List Fld) (lo:Int) (hw:w≤n) (hn:n≤el.length) (hb:n≤1048576) :
    dfrR E 89 [.ptr (h0.length+1+r.length,0) 1 0 0,.ptr (h0.length+1+r.length,1) 1 0 0] (h0++bdL m h0.length gs cg ps mn B3 el g n fl la lo 1::(r++[bxB h0.length::waO w::A])) (.tuple []) (h0++bdL m h0.length gs cg ps mn B3 el g w .any ((el.drop w).take (n - w)) lo 0::(r++[bxB h0.length::waO w::A])):=by
  have hlow:=hz.all m (gs:=gs) (cg:=cg) (ps:=ps) (mn:=mn) el g w .any ((el.drop w).take (n - w)) lo 0
  have hbx:∀ B,hget (h0++B::((r++[bxB h0.length::waO w::A])++[[]])) (h0.length+1+r.length,0)=bxB h0.length:=fun B=>by rw [zg_m];rfl
  have hwa:∀ B,hget (h0++B::((r++[bxB h0.length::waO w::A])++[[]])) (h0.length+1+r.length,1)=waO w:=fun B=>by rw [zg_m];rfl
  generalize r++[bxB h0.length::waO w::A]=G at *
  have e3:bound (.int .i64 w) n=some w:=by simp [bound,hw]
  have e4:w+(n - w)≤el.length:=by omega
  have e5:((el.drop w).take (n - w)).length≤1048576:=by simp;omega
  have e6:((el.drop w).take (n - w)).length=n - w:=by simp;omega
  refine dfr_of (pf:=p89) rfl rfl rfl rfl rfl rfl ?_
  show kQ E _ (endG _ _) .norm { lvl:=h0.length+1+G.length,tmps:=mk 33 [(0,.ptr (h0.length+1+r.length,0) 1 0 0),(1,.ptr (h0.length+1+r.length,1) 1 0 0)],heap:=h0++bdL m h0.length gs cg ps mn B3 el g n fl la lo 1::(G++[[]]),defers:=[] }
  repeat' first|(with_reducible first|refine cS ?_ ?_|refine oS ?_ ?_|refine dS ?_ ?_)<;>intro _|((with_reducible refine kk ?_ ?_);·rfl)|simp -implicitDefEqProofs(disch:=first|omega|assumption)only[push_cast,simprocAttr,Zd,Zc,Ze,Zb,hbx,hwa,e3,e4,e5,e6,boundsE,Y5,Xr,Xs,Vb,Th,Tg,Vk,W4,hn,endG_norm,hlow,Option.isNone_none,Option.isNone_some,Option.isSome_none,Option.isSome_some,stabG,stabS,Z1,Yb,Z0,Zt,Zy,Z9,Ya,Zz,Zu,Zp]|(with_reducible first|refine cB ?_ ?_|refine oB ?_ ?_|refine dB ?_ ?_)<;>intro _|with_reducible first|refine Z2 ?_ ?_|refine Z3 (by decide) ?_|refine Z4 (by decide) ?_ ?_|exact Z5|refine Zx ?_|refine Zq ?_
end
end
section
def Wk (sc:List Fld) (s:St):List Fld:=if s.kind=1 then sc++[⟨s.name,s.ty⟩] else sc
def Vf (gs:List Str) (sc:List Fld) (nm:Str):Bool:=!nameF nm||(decide (nm∈gs)||decide (0≤fdF sc nm))
mutual
def Wa (m:Mod) (gs:List Str) (ps:Int) (mn:Bool):Int→List Fld→List St→Int × List Fld
  | _,sc,[]=>(0,sc)
  | lo,sc,s::r=>if W0 m gs ps mn lo sc s≠0 then (W0 m gs ps mn lo sc s,sc) else Wa m gs ps mn lo (Wk sc s) r
def W0 (m:Mod) (gs:List Str) (ps:Int) (mn:Bool):Int→List Fld→St→Int
  | lo,sc,.mk k nm t tg v ct fb b fe e =>
    if k=1 then (if Vf gs sc nm=true then 13 else if validF m.ss t=false then 12 else Wq m sc v t)
    else if k=2 then T7 m ps sc (.mk k nm t tg v ct fb b fe e)
    else if k=3 then (if Wq m sc v ⟨4,[]⟩≠0 then Wq m sc v ⟨4,[]⟩ else if (Wa m gs ps mn lo sc b).1≠0 then (Wa m gs ps mn lo sc b).1 else (Wa m gs ps mn lo sc e).1)
    else if k=4 then (if mn=false then 10 else if ct<1∨ct>16 then 6 else if lo≥3 then 5 else (Wa m gs ps mn (lo+1) sc b).1)
    else if k=5∨k=6 then whenF (decide (lo=0)) 10
    else if k=7 then whenF (!mn||decide (m.stage≠3)) 10
    else if k=8∨k=9 then whenF (!mn||decide (m.stage≠2)) 10
    else 10
end
section
variable (m:Mod) (gs:List Str) (cg:Nat) (ps:Int) (mn:Bool) (B3:List (Option Ob)) (h0:Heap)
abbrev zH (r:Heap) (el:List Fld) (g n:Nat) (fl:Fl) (la:List Fld) (lo dp:Int):Heap:=h0++bdL m h0.length gs cg ps mn B3 el g n fl la lo dp::r
def BOk (l:List St):Prop:=∀ (f:Fl) (r:Heap),LowZ h0 r B3→∀ (el:List Fld) (g n:Nat) (fl:Fl) (la:List Fld) (lo dp:Int),1≤dp→dp+szS l≤4194303→0≤lo→lo≤3→n+szS l≤1048576→n≤el.length →
  ∃ el' g',doCall E (callR E) 62 [.ptr (h0.length,2) 1 0 0,.vs f (sts l)] (zH m gs cg ps mn B3 h0 r el g n fl la lo dp)=some (.int .i64 (Wa m gs ps mn lo (el.take n) l).1,zH m gs cg ps mn B3 h0 r el' g' n fl la lo dp)∧n≤el'.length∧el'.take n=el.take n
theorem Wg {h:Heap} {N i:Nat} {t:List (Nat × PV)} {v:PV} (hv:look t i=v) (hi:i<N:=by decide):resultsE h (mk N t) [⟨i,none⟩]=some v:=by
  simp only [resultsE,mapO,rvE]
  rw [mk_get,hv]
  simp [hi]
theorem Vl {K k:Nat} (h:K<k):obLow k (bxB K)=true:=by simp [obLow,PV.lowL,PV.low,Nat.blt_eq,h]
set_option maxHeartbeats 8000000 in
theorem T6 (s:St) (hb:BOk m gs cg ps mn B3 h0 s.body) (r:Heap) (hz:LowZ h0 r B3) (el:List Fld) (g n:Nat) (fl:Fl) (la:List Fld) (lo dp:Int) (h1:1≤dp) (h2:dp+szS s.body≤4194303) (h3:0≤lo) (h4:lo≤3) (h5:n+szS s.body≤1048576) (h6:n≤el.length) :
    ∃ el' g',doCall E (callR E) 126 [.ptr (h0.length,2) 1 0 0,s.v17] (zH m gs cg ps mn B3 h0 r el g n fl la lo dp)=some (.int .i64 (if mn=false then 10 else if s.count<1∨s.count>16 then 6 else if lo≥3 then 5 else (Wa m gs ps mn (lo+1) (el.take n) s.body).1),zH m gs cg ps mn B3 h0 r el' g' n fl la lo dp)∧n≤el'.length∧el'.take n=el.take n:=by
  have hlow:=hz.all m (gs:=gs) (cg:=cg) (ps:=ps) (mn:=mn) el g n fl la lo dp
  have key:∀ P:PV→Heap→Prop,(∀ (x:Int) (el':List Fld) (g':Nat),(if mn=false then 10 else if s.count<1∨s.count>16 then 6 else if lo≥3 then 5 else (Wa m gs ps mn (lo+1) (el.take n) s.body).1)=x→n≤el'.length→el'.take n=el.take n→P (.int .i64 x) (zH m gs cg ps mn B3 h0 r el' g' n fl la lo dp)) →
      ∃ rr h',doCall E (callR E) 126 [.ptr (h0.length,2) 1 0 0,s.v17] (zH m gs cg ps mn B3 h0 r el g n fl la lo dp)=some (rr,h')∧P rr h':=by
    intro P hP
    refine call_impXD (pf:=p126) rfl rfl rfl rfl rfl ?_
    show kQ E _ (endXD E [⟨4,none⟩] _ _) .norm { lvl:=h0.length+1+r.length,tmps:=mk 38 [(0,.ptr (h0.length,2) 1 0 0),(1,s.v17)],heap:=h0++bdL m h0.length gs cg ps mn B3 el g n fl la lo dp::(r++[[none]]),defers:=[] }
    have fin:∀ (x:Int) (t:List (Nat × PV)),(if mn=false then 10 else if s.count<1∨s.count>16 then 6 else if lo≥3 then 5 else (Wa m gs ps mn (lo+1) (el.take n) s.body).1)=x→look t 4=.int .i64 x →
        endXD E [⟨4,none⟩] (h0.length+1+r.length) P .ret { lvl:=h0.length+1+r.length,tmps:=mk 38 t,heap:=h0++bdL m h0.length gs cg ps mn B3 el g n fl la lo dp::(r++[[bxB h0.length]]),defers:=[] }:=by
      intro x t he hx
      refine endXD_ret dfs_nil (rr:=.int .i64 x) (Wg hx) (by rw [zt_t];exact hlow) rfl ?_
      rw [zt_t]
      exact hP x el g he h6 rfl
    cases hmn:mn
    · subst hmn
      repeat' first|(with_reducible first|refine cS ?_ ?_|refine oS ?_ ?_|refine dS ?_ ?_)<;>intro _|((with_reducible refine kk ?_ ?_);·rfl)|simp -implicitDefEqProofs(disch:=first|omega|assumption)only[push_cast,simprocAttr,Zd,Zc,Ze,Zb]|(with_reducible first|refine cB ?_ ?_|refine oB ?_ ?_|refine dB ?_ ?_)<;>intro _
      exact fin 10 _ rfl rfl
    · subst hmn
      by_cases c1:s.count<1
      · repeat' first|(with_reducible first|refine cS ?_ ?_|refine oS ?_ ?_|refine dS ?_ ?_)<;>intro _|((with_reducible refine kk ?_ ?_);·rfl)|simp -implicitDefEqProofs(disch:=first|omega|assumption)only[push_cast,simprocAttr,Zd,Zc,Ze,Zb,c1]|(with_reducible first|refine cB ?_ ?_|refine oB ?_ ?_|refine dB ?_ ?_)<;>intro _
        exact fin 6 _ (by simp [c1]) rfl
      · by_cases c2:s.count>16
        · repeat' first|(with_reducible first|refine cS ?_ ?_|refine oS ?_ ?_|refine dS ?_ ?_)<;>intro _|((with_reducible refine kk ?_ ?_);·rfl)|simp -implicitDefEqProofs(disch:=first|omega|assumption)only[push_cast,simprocAttr,Zd,Zc,Ze,Zb,c1,c2]|(with_reducible first|refine cB ?_ ?_|refine oB ?_ ?_|refine dB ?_ ?_)<;>intro _
          exact fin 6 _ (by simp [c2]) rfl
        · by_cases c3:lo≥3
          · repeat' first|(with_reducible first|refine cS ?_ ?_|refine oS ?_ ?_|refine dS ?_ ?_)<;>intro _|((with_reducible refine kk ?_ ?_);·rfl)|simp -implicitDefEqProofs(disch:=first|omega|assumption)only[push_cast,simprocAttr,Zd,Zc,Ze,Zb,c1,c2,c3]|(with_reducible first|refine cB ?_ ?_|refine oB ?_ ?_|refine dB ?_ ?_)<;>intro _
            exact fin 5 _ (by simp [c1,c2,c3]) rfl
          · have hlz:LowZ h0 (r++[[bxB h0.length]]) B3:=hz.push (by simp only [List.all_cons,List.all_nil,Bool.and_true];exact Vl (by omega))
            obtain ⟨el',g',hd,h7,h8⟩:=hb s.fb _ hlz el g n fl la (lo+1) dp h1 h2 (by omega) (by omega) h5 h6
            repeat' first|(with_reducible first|refine cS ?_ ?_|refine oS ?_ ?_|refine dS ?_ ?_)<;>intro _|((with_reducible refine kk ?_ ?_);·rfl)|simp -implicitDefEqProofs(disch:=first|omega|assumption)only[push_cast,simprocAttr,Zd,Zc,Ze,Zb,c1,c2,c3,hd]|(with_reducible first|refine cB ?_ ?_|refine oB ?_ ?_|refine dB ?_ ?_)<;>intro _
            have hlow':=hz.all m (gs:=gs) (cg:=cg) (ps:=ps) (mn:=true) el' g' n fl la lo dp
            refine endXD_ret (dfs_one (Tx m gs cg ps true B3 h0 r [] hlz el' g' n fl la lo dp h3 (by omega))) (rr:=.int .i64 (Wa m gs ps true (lo+1) (el.take n) s.body).1) (Wg rfl) (by rw [zt_t];exact hlow') rfl ?_
            rw [zt_t]
            exact hP _ el' g' (by rw [if_neg (by decide),if_neg (by omega),if_neg c3]) h7 h8
  obtain ⟨rr,h',hd,el',g',rfl,rfl,h7,h8⟩:=key (fun rr h'=>∃ el' g',rr=.int .i64 (if mn=false then 10 else if s.count<1∨s.count>16 then 6 else if lo≥3 then 5 else (Wa m gs ps mn (lo+1) (el.take n) s.body).1)∧h'=zH m gs cg ps mn B3 h0 r el' g' n fl la lo dp∧n≤el'.length∧el'.take n=el.take n) fun x el' g' hx h7 h8=>⟨el',g',by rw [hx],rfl,h7,h8⟩
  exact ⟨el',g',hd,h7,h8⟩
end
end
section
theorem Td (m:Mod) (gs:List Str) (ps:Int) (mn:Bool) (lo:Int) (sc:List Fld) (s:St):W0 m gs ps mn lo sc s =
    if s.kind=1 then (if Vf gs sc s.name=true then 13 else if validF m.ss s.ty=false then 12 else Wq m sc s.value s.ty)
    else if s.kind=2 then T7 m ps sc s
    else if s.kind=3 then (if Wq m sc s.value ⟨4,[]⟩≠0 then Wq m sc s.value ⟨4,[]⟩ else if (Wa m gs ps mn lo sc s.body).1≠0 then (Wa m gs ps mn lo sc s.body).1 else (Wa m gs ps mn lo sc s.els).1)
    else if s.kind=4 then (if mn=false then 10 else if s.count<1∨s.count>16 then 6 else if lo≥3 then 5 else (Wa m gs ps mn (lo+1) sc s.body).1)
    else if s.kind=5∨s.kind=6 then whenF (decide (lo=0)) 10
    else if s.kind=7 then whenF (!mn||decide (m.stage≠3)) 10
    else if s.kind=8∨s.kind=9 then whenF (!mn||decide (m.stage≠2)) 10
    else 10:=by
  obtain ⟨k,n,t,tg,v,ct,fb,b,fe,e⟩:=s
  unfold W0
  rfl
theorem U5 {h0 r:Heap} {B L M N:List (Option Ob)} {i:Nat}:hget (h0++B::(((r++[M])++[L])++[N])) (h0.length+1+r.length,i)=(M[i]?).bind id:=by
  unfold hget
  rw [z_get]
  simp
section
variable (m:Mod) (hm:m.Ok) (gs:List Str) (cg:Nat) (ps:Int) (mn:Bool) (B3:List (Option Ob)) (h0:Heap)
abbrev c17 (s:St):List PV:=[.int .i64 s.kind,.str s.name,.int .i64 s.ty.kind,.str s.ty.name,.int .i64 s.target.kind,.int .i64 s.target.op,.str s.target.name,.int .i64 s.target.value,.vs s.target.fl (exs s.target.args),.int .i64 s.value.kind,.int .i64 s.value.op,.str s.value.name,.int .i64 s.value.value,.vs s.value.fl (exs s.value.args),.int .i64 s.count,.vs s.fb (sts s.body),.vs s.fe (sts s.els)]
include hm in
set_option maxHeartbeats 8000000 in
theorem Rm (s:St) (hs:s.sz≤1048576) (r:Heap) (A:List (Option Ob)) (hz:LowZ h0 ((r++[bxB h0.length::A])++[[]]) B3) (el:List Fld) (g n:Nat) (fl:Fl) (la:List Fld) (lo dp:Int) (hn:n≤el.length) (hb:n≤1048576) :
    doCall E (callR E) 122 [.ptr (h0.length+1+r.length,0) 1 0 0,.ip (c17 s)] (zH m gs cg ps mn B3 h0 ((r++[bxB h0.length::A])++[[]]) el g n fl la lo dp)=some (.int .i64 (Wq m (el.take n) s.value ⟨4,[]⟩),zH m gs cg ps mn B3 h0 ((r++[bxB h0.length::A])++[[]]) el g n fl la lo dp):=by
  have hlow:=hz.all m (gs:=gs) (cg:=cg) (ps:=ps) (mn:=mn) el g n fl la lo dp
  have hsz:=s.sz_eq
  have hbx:∀ B,hget (h0++B::(((r++[bxB h0.length::A])++[[]])++[[]])) (h0.length+1+r.length,0)=bxB h0.length:=fun B=>by rw [U5];rfl
  have hx:=Vm m hm gs cg ps mn B3 h0 ((r++[bxB h0.length::A])++[[]]++[[]]) (hz.push rfl) el g n fl la lo dp hn hb s.value (by omega) ⟨4,[]⟩
  rw [s.value.c_eq] at hx
  generalize (r++[bxB h0.length::A])++[[]]=G at *
  refine call_impZ (pf:=p122) rfl rfl rfl rfl rfl (by simp [PV.low]) ?_
  show kQ E _ (endM [⟨2,none⟩] _ _ _) .norm { lvl:=h0.length+1+G.length,tmps:=mk 8 [(0,.ptr (h0.length+1+r.length,0) 1 0 0),(1,.ip (c17 s))],heap:=h0++bdL m h0.length gs cg ps mn B3 el g n fl la lo dp::(G++[[]]),defers:=[] }
  have pu123:pureB E 123=true:=rfl
  repeat' first|(with_reducible first|refine cS ?_ ?_|refine oS ?_ ?_|refine dS ?_ ?_)<;>intro _|((with_reducible refine kk ?_ ?_);·rfl)|simp -implicitDefEqProofs(disch:=first|omega|assumption)only[push_cast,simprocAttr,Zd,Zc,Ze,Zb,hbx,Ye,hx,Zm,allMarks,hlow]|(with_reducible first|refine cB ?_ ?_|refine oB ?_ ?_|refine dB ?_ ?_)<;>intro _
set_option maxHeartbeats 8000000 in
theorem Rl (s:St) (hb:BOk m gs cg ps mn B3 h0 s.body) (r:Heap) (A:List (Option Ob)) (hz:LowZ h0 ((r++[bxB h0.length::A])++[[]]) B3) (el:List Fld) (g n:Nat) (fl:Fl) (la:List Fld) (lo dp:Int) (h1:1≤dp) (h2:dp+szS s.body≤4194303) (h3:0≤lo) (h4:lo≤3) (h5:n+szS s.body≤1048576) (h6:n≤el.length) :
    ∃ el' g',doCall E (callR E) 124 [.ptr (h0.length+1+r.length,0) 1 0 0,.ip (c17 s)] (zH m gs cg ps mn B3 h0 ((r++[bxB h0.length::A])++[[]]) el g n fl la lo dp)=some (.int .i64 (Wa m gs ps mn lo (el.take n) s.body).1,zH m gs cg ps mn B3 h0 ((r++[bxB h0.length::A])++[[]]) el' g' n fl la lo dp)∧n≤el'.length∧el'.take n=el.take n:=by
  obtain ⟨el',g',hd,h7,h8⟩:=hb s.fb _ (hz.push (L:=[]) rfl) el g n fl la lo dp h1 h2 h3 h4 h5 h6
  refine ⟨el',g',?_,h7,h8⟩
  have hlow:=hz.all m (gs:=gs) (cg:=cg) (ps:=ps) (mn:=mn) el' g' n fl la lo dp
  have hbx:∀ B,hget (h0++B::(((r++[bxB h0.length::A])++[[]])++[[]])) (h0.length+1+r.length,0)=bxB h0.length:=fun B=>by rw [U5];rfl
  generalize (r++[bxB h0.length::A])++[[]]=G at *
  refine call_impZ (pf:=p124) rfl rfl rfl rfl rfl (by simp [PV.low]) ?_
  show kQ E _ (endM [⟨2,none⟩] _ _ _) .norm { lvl:=h0.length+1+G.length,tmps:=mk 7 [(0,.ptr (h0.length+1+r.length,0) 1 0 0),(1,.ip (c17 s))],heap:=h0++bdL m h0.length gs cg ps mn B3 el g n fl la lo dp::(G++[[]]),defers:=[] }
  repeat' first|(with_reducible first|refine cS ?_ ?_|refine oS ?_ ?_|refine dS ?_ ?_)<;>intro _|((with_reducible refine kk ?_ ?_);·rfl)|simp -implicitDefEqProofs(disch:=first|omega|assumption)only[push_cast,simprocAttr,Zd,Zc,Ze,Zb,hbx,hd,Zm,allMarks,hlow]|(with_reducible first|refine cB ?_ ?_|refine oB ?_ ?_|refine dB ?_ ?_)<;>intro _
set_option maxHeartbeats 8000000 in
theorem Rk (s:St) (hb:BOk m gs cg ps mn B3 h0 s.els) (r:Heap) (A:List (Option Ob)) (hz:LowZ h0 ((r++[bxB h0.length::A])++[[]]) B3) (el:List Fld) (g n:Nat) (fl:Fl) (la:List Fld) (lo dp:Int) (h1:1≤dp) (h2:dp+szS s.els≤4194303) (h3:0≤lo) (h4:lo≤3) (h5:n+szS s.els≤1048576) (h6:n≤el.length) :
    ∃ el' g',doCall E (callR E) 125 [.ptr (h0.length+1+r.length,0) 1 0 0,.ip (c17 s)] (zH m gs cg ps mn B3 h0 ((r++[bxB h0.length::A])++[[]]) el g n fl la lo dp)=some (.int .i64 (Wa m gs ps mn lo (el.take n) s.els).1,zH m gs cg ps mn B3 h0 ((r++[bxB h0.length::A])++[[]]) el' g' n fl la lo dp)∧n≤el'.length∧el'.take n=el.take n:=by
  obtain ⟨el',g',hd,h7,h8⟩:=hb s.fe _ (hz.push (L:=[]) rfl) el g n fl la lo dp h1 h2 h3 h4 h5 h6
  refine ⟨el',g',?_,h7,h8⟩
  have hlow:=hz.all m (gs:=gs) (cg:=cg) (ps:=ps) (mn:=mn) el' g' n fl la lo dp
  have hbx:∀ B,hget (h0++B::(((r++[bxB h0.length::A])++[[]])++[[]])) (h0.length+1+r.length,0)=bxB h0.length:=fun B=>by rw [U5];rfl
  generalize (r++[bxB h0.length::A])++[[]]=G at *
  refine call_impZ (pf:=p125) rfl rfl rfl rfl rfl (by simp [PV.low]) ?_
  show kQ E _ (endM [⟨2,none⟩] _ _ _) .norm { lvl:=h0.length+1+G.length,tmps:=mk 7 [(0,.ptr (h0.length+1+r.length,0) 1 0 0),(1,.ip (c17 s))],heap:=h0++bdL m h0.length gs cg ps mn B3 el g n fl la lo dp::(G++[[]]),defers:=[] }
  repeat' first|(with_reducible first|refine cS ?_ ?_|refine oS ?_ ?_|refine dS ?_ ?_)<;>intro _|((with_reducible refine kk ?_ ?_);·rfl)|simp -implicitDefEqProofs(disch:=first|omega|assumption)only[push_cast,simprocAttr,Zd,Zc,Ze,Zb,hbx,hd,Zm,allMarks,hlow]|(with_reducible first|refine cB ?_ ?_|refine oB ?_ ?_|refine dB ?_ ?_)<;>intro _
def W8 (n:Nm) (s:St):List Clo:=[⟨122,[],[.ptr n 1 0 0,.ip (c17 s)]⟩,⟨124,[],[.ptr n 1 0 0,.ip (c17 s)]⟩,⟨125,[],[.ptr n 1 0 0,.ip (c17 s)]⟩]
include hm in
theorem if_ok (s:St) (hs:s.sz≤1048576) (hb:BOk m gs cg ps mn B3 h0 s.body) (he:BOk m gs cg ps mn B3 h0 s.els) (r:Heap) (o1:Option Ob) (hz:LowZ h0 (r++[[bxB h0.length,o1,some (.mem (clos (W8 (h0.length+1+r.length,0) s)) 1 false 1)]]) B3)
    (el:List Fld) (g n:Nat) (fl:Fl) (la:List Fld) (lo dp:Int) (h1:1≤dp) (h2:dp+s.sz≤4194304) (h3:0≤lo) (h4:lo≤3) (h5:n+s.sz≤1048576) (h6:n≤el.length) :
    ∃ x el' g',doCall E (callR E) 32 [.sl (h0.length+1+r.length,2) 1 0 3] (zH m gs cg ps mn B3 h0 (r++[[bxB h0.length,o1,some (.mem (clos (W8 (h0.length+1+r.length,0) s)) 1 false 1)]]) el g n fl la lo dp)=some (.int .i64 x,zH m gs cg ps mn B3 h0 (r++[[bxB h0.length,o1,some (.mem (clos (W8 (h0.length+1+r.length,0) s)) 1 false 1)]]) el' g' n fl la lo dp) ∧
      x=(if Wq m (el.take n) s.value ⟨4,[]⟩≠0 then Wq m (el.take n) s.value ⟨4,[]⟩ else if (Wa m gs ps mn lo (el.take n) s.body).1≠0 then (Wa m gs ps mn lo (el.take n) s.body).1 else (Wa m gs ps mn lo (el.take n) s.els).1)∧n≤el'.length∧el'.take n=el.take n:=by
  have hsz:=s.sz_eq
  have hz2:=hz.push (L:=[]) rfl
  have q1:=Rm m hm gs cg ps mn B3 h0 s hs r _ hz2 el g n fl la lo dp h6 (by omega)
  obtain ⟨el1,g1,q2,a1,a2⟩:=Rl m gs cg ps mn B3 h0 s hb r _ hz2 el g n fl la lo dp h1 (by omega) h3 h4 (by omega) h6
  obtain ⟨el2,g2,q3,b1,b2⟩:=Rk m gs cg ps mn B3 h0 s he r _ hz2 el1 g1 n fl la lo dp h1 (by omega) h3 h4 (by omega) a1
  generalize hR:r++[[bxB h0.length,o1,some (.mem (clos (W8 (h0.length+1+r.length,0) s)) 1 false 1)]]=R at *
  have hlen:∀ el g,(zH m gs cg ps mn B3 h0 R el g n fl la lo dp).length=h0.length+1+R.length:=fun el g=>z_len
  have hmem:∀ el g,hget (zH m gs cg ps mn B3 h0 R el g n fl la lo dp) (h0.length+1+r.length,2)=some (.mem (clos (W8 (h0.length+1+r.length,0) s)) 1 false 1):=fun el g=>by rw [← hR,zg_t];rfl
  have hlo:∀ el g,heapLow (zH m gs cg ps mn B3 h0 R el g n fl la lo dp).length (zH m gs cg ps mn B3 h0 R el g n fl la lo dp)=true:=fun el g=>by rw [hlen];exact hz.all m el g n fl la lo dp
  have hk:(h0.length+1+r.length:Nat)<(zH m gs cg ps mn B3 h0 R el g n fl la lo dp).length:=by rw [hlen,← hR];simp
  have happ:∀ el g,zH m gs cg ps mn B3 h0 R el g n fl la lo dp++[[]]=zH m gs cg ps mn B3 h0 (R++[[]]) el g n fl la lo dp:=fun el g=>z_app
  rw [a2] at q3
  rw [← happ,← happ] at q2 q3
  rw [← happ] at q1
  have hl:=(hlen el1 g1).trans (hlen el g).symm
  have hl2:=(hlen el2 g2).trans (hlen el g).symm
  have hcl:∀ (e:Int) (el':List Fld) (g':Nat),FirstR (h0.length+1+r.length,2) 1 (clos (W8 (h0.length+1+r.length,0) s)) (zH m gs cg ps mn B3 h0 R el g n fl la lo dp).length (W8 (h0.length+1+r.length,0) s) (zH m gs cg ps mn B3 h0 R el g n fl la lo dp) e (zH m gs cg ps mn B3 h0 R el' g' n fl la lo dp) →
      doCall E (callR E) 32 [.sl (h0.length+1+r.length,2) 1 0 3] (zH m gs cg ps mn B3 h0 R el g n fl la lo dp)=some (.int .i64 e,zH m gs cg ps mn B3 h0 R el' g' n fl la lo dp):=fun e el' g' hF =>
    first_ok (h0.length+1+r.length,2) 1 (W8 (h0.length+1+r.length,0) s) (by simp [W8]) e _ _ hk (hmem el g) hF (by rw [hlen,← hlen el' g'];exact hlo el' g')
  by_cases e1:Wq m (el.take n) s.value ⟨4,[]⟩=0
  · rw [e1] at q1
    by_cases e2:(Wa m gs ps mn lo (el.take n) s.body).1=0
    · rw [e2] at q2
      refine ⟨_,el2,g2,hcl _ _ _ (.next _ _ _ _ _ _ q1 rfl (hmem _ _) (.next _ _ _ _ _ _ q2 hl (hmem _ _) ?_)),by rw [if_neg (by simp [e1]),if_neg (by simp [e2])],b1,b2.trans a2⟩
      by_cases e3:(Wa m gs ps mn lo (el.take n) s.els).1=0
      · rw [e3] at q3 ⊢
        exact .next _ _ _ _ _ _ q3 hl2 (hmem _ _) (.nil _)
      · exact .stop _ _ _ _ _ q3 e3 hl2
    · exact ⟨_,el1,g1,hcl _ _ _ (.next _ _ _ _ _ _ q1 rfl (hmem _ _) (.stop _ _ _ _ _ q2 e2 hl)),by rw [if_neg (by simp [e1]),if_pos e2],a1,a2⟩
  · exact ⟨_,el,g,hcl _ _ _ (.stop _ _ _ _ _ q1 e1 rfl),by rw [if_pos e1],h6,rfl⟩
end
end
section
theorem Xy {a b:List Fld}:flds a++flds b=flds (a++b):=by simp [flds]
section
variable (m:Mod) (hm:m.Ok) (gs:List Str) (cg:Nat) (ps:Int) (mn:Bool) (B3:List (Option Ob)) (h0:Heap)
def Uz (r:Heap) (el:List Fld) (n:Nat) (fl:Fl) (la:List Fld) (lo dp:Int) (s:St) (x:Int) (h':Heap):Prop :=
  x=W0 m gs ps mn lo (el.take n) s∧∃ el' g' n',h'=zH m gs cg ps mn B3 h0 r el' g' n' fl la lo dp∧n≤n'∧n'≤el'.length∧n'≤n+1∧el'.take n=el.take n∧(x=0→el'.take n'=Wk (el.take n) s)
include hm in
set_option maxHeartbeats 16000000 in
theorem T5 (s:St) (hb:BOk m gs cg ps mn B3 h0 s.body) (hbe:BOk m gs cg ps mn B3 h0 s.els) (r:Heap) (hz:LowZ h0 r B3) (el:List Fld) (g n:Nat) (fl:Fl) (la:List Fld) (lo dp:Int) (h1:1≤dp) (h2:dp+s.sz≤4194304) (h3:0≤lo) (h4:lo≤3) (h5:n+s.sz≤1048576) (h6:n≤el.length) :
    ∃ x h',doCall E (callR E) 90 [.ptr (h0.length,2) 1 0 0,s.v17] (zH m gs cg ps mn B3 h0 r el g n fl la lo dp)=some (.int .i64 x,h')∧Uz m gs cg ps mn B3 h0 r el n fl la lo dp s x h':=by
  have hsz:=s.sz_eq
  have key:∀ P:PV→Heap→Prop,(∀ (x:Int) (h':Heap),Uz m gs cg ps mn B3 h0 r el n fl la lo dp s x h'→P (.int .i64 x) h') →
      ∃ rr h',doCall E (callR E) 90 [.ptr (h0.length,2) 1 0 0,s.v17] (zH m gs cg ps mn B3 h0 r el g n fl la lo dp)=some (rr,h')∧P rr h':=by
    intro P hP
    have hw:=Td m gs ps mn lo (el.take n) s
    refine call_impX (pf:=p90) rfl rfl rfl rfl rfl ?_
    show kQ E _ (endX [⟨4,none⟩] _ _) .norm { lvl:=h0.length+1+r.length,tmps:=mk 126 [(0,.ptr (h0.length,2) 1 0 0),(1,s.v17)],heap:=h0++bdL m h0.length gs cg ps mn B3 el g n fl la lo dp::(r++[[none,none,none]]),defers:=[] }
    have fin:∀ (x:Int) (t:List (Nat × PV)) (el':List Fld) (g' n':Nat) (L:List (Option Ob)),x=W0 m gs ps mn lo (el.take n) s→look t 4=.int .i64 x→n≤n'→n'≤el'.length→n'≤n+1→el'.take n=el.take n→(x=0→el'.take n'=Wk (el.take n) s) →
        endX [⟨4,none⟩] (h0.length+1+r.length) P .ret { lvl:=h0.length+1+r.length,tmps:=mk 126 t,heap:=h0++bdL m h0.length gs cg ps mn B3 el' g' n' fl la lo dp::(r++[L]),defers:=[] }:=by
      intro x t el' g' n' L he hx a1 a2 a3 a4 a5
      refine endX_ret (rr:=.int .i64 x) (Wg hx) (by rw [zt_t];exact hz.all m el' g' n' fl la lo dp) rfl ?_
      rw [zt_t]
      exact hP x _ ⟨he,el',g',n',rfl,a1,a2,a3,a4,a5⟩
    have fin0:∀ (x:Int) (t:List (Nat × PV)) (el':List Fld) (g':Nat) (L:List (Option Ob)),x=W0 m gs ps mn lo (el.take n) s→look t 4=.int .i64 x→s.kind≠1∨x≠0→n≤el'.length→el'.take n=el.take n →
        endX [⟨4,none⟩] (h0.length+1+r.length) P .ret { lvl:=h0.length+1+r.length,tmps:=mk 126 t,heap:=h0++bdL m h0.length gs cg ps mn B3 el' g' n fl la lo dp::(r++[L]),defers:=[] }:=by
      intro x t el' g' L he hx a0 a2 a4
      refine fin x t el' g' n L he hx (Nat.le_refl _) a2 (Nat.le_succ _) a4 fun hx0=>?_
      rcases a0 with a0|a0
      · rw [a4,Wk,if_neg a0]
      · exact absurd hx0 a0
    have hz1:∀ o1 o2,obLow (h0.length+1+r.length+1) o1=true→obLow (h0.length+1+r.length+1) o2=true→LowZ h0 (r++[[bxB h0.length,o1,o2]]) B3:=fun o1 o2 e1 e2=>hz.push (by simp only [List.all_cons,List.all_nil,Bool.and_true,e1,e2];exact Vl (by omega))
    by_cases k1:s.kind=1
    · have y1:(s.kind=1)=True:=eq_true k1
      have hv:∀ h,doCall E (callR E) 53 [.vs m.sf (scts m.ss),.agg [.int .i64 s.ty.kind,.str s.ty.name]] h=some (.bool (validF m.ss s.ty),h):=fun h=>valid_ok m.sf m.ss hm.ss s.ty h
      have hf:∀ (L:List (Option Ob)),doCall E (callR E) 119 [.sl (h0.length,0) g 0 n,.str s.name] (h0++bdL m h0.length gs cg ps mn B3 el g n fl la lo dp::(r++[L]))=some (.int .i64 (fdF (el.take n) s.name),h0++bdL m h0.length gs cg ps mn B3 el g n fl la lo dp::(r++[L])):=fun L=>Rq h6 (by omega) s.name (by rw [zg_b];rfl)
      have hx:=Vm m hm gs cg ps mn B3 h0 _ (hz1 none none rfl rfl) el g n fl la lo dp h6 (by omega) s.value (by omega) s.ty
      rw [s.value.c_eq] at hx
      by_cases b1:nameF s.name=true
      · by_cases b2:s.name∈gs
        · repeat' first|(with_reducible first|refine cS ?_ ?_|refine oS ?_ ?_|refine dS ?_ ?_)<;>intro _|((with_reducible refine kk ?_ ?_);·rfl)|simp -implicitDefEqProofs(disch:=first|omega|assumption)only[push_cast,simprocAttr,Zd,Zc,Ze,Zb,y1,Y0,b1,keyIs,Yj,b2,Option.getD_some]|(with_reducible first|refine cB ?_ ?_|refine oB ?_ ?_|refine dB ?_ ?_)<;>intro _
          exact fin0 13 _ el g _ (by rw [hw,if_pos k1,if_pos (by simp [Vf,b2])]) (by rfl) (.inr (by decide)) h6 rfl
        · by_cases b3:fdF (el.take n) s.name≥0
          · repeat' first|(with_reducible first|refine cS ?_ ?_|refine oS ?_ ?_|refine dS ?_ ?_)<;>intro _|((with_reducible refine kk ?_ ?_);·rfl)|simp -implicitDefEqProofs(disch:=first|omega|assumption)only[push_cast,simprocAttr,Zd,Zc,Ze,Zb,y1,Y0,b1,keyIs,Yj,b2,hf,b3,Option.getD_none]|(with_reducible first|refine cB ?_ ?_|refine oB ?_ ?_|refine dB ?_ ?_)<;>intro _
            exact fin0 13 _ el g _ (by rw [hw,if_pos k1,if_pos (by simp [Vf,b3])]) (by rfl) (.inr (by decide)) h6 rfl
          · have hlt:Vf gs (el.take n) s.name=false:=by simp [Vf,b1,b2];omega
            cases b4:validF m.ss s.ty
            · repeat' first|(with_reducible first|refine cS ?_ ?_|refine oS ?_ ?_|refine dS ?_ ?_)<;>intro _|((with_reducible refine kk ?_ ?_);·rfl)|simp -implicitDefEqProofs(disch:=first|omega|assumption)only[push_cast,simprocAttr,Zd,Zc,Ze,Zb,y1,Y0,b1,keyIs,Yj,b2,hf,b3,hv,b4,Option.getD_none]|(with_reducible first|refine cB ?_ ?_|refine oB ?_ ?_|refine dB ?_ ?_)<;>intro _
              exact fin0 12 _ el g _ (by rw [hw,if_pos k1,if_neg (by simp [hlt]),if_pos b4]) (by rfl) (.inr (by decide)) h6 rfl
            · have he:W0 m gs ps mn lo (el.take n) s=Wq m (el.take n) s.value s.ty:=by rw [hw,if_pos k1,if_neg (by simp [hlt]),if_neg (by simp [b4])]
              by_cases b5:Wq m (el.take n) s.value s.ty=0
              · have fld1:[PV.agg [.str s.name,.int .i64 s.ty.kind,.str s.ty.name]]=flds [⟨s.name,s.ty⟩]:=rfl
                by_cases b6:n+1≤el.length
                · repeat' first|(with_reducible first|refine cS ?_ ?_|refine oS ?_ ?_|refine dS ?_ ?_)<;>intro _|((with_reducible refine kk ?_ ?_);·rfl)|simp -implicitDefEqProofs(disch:=first|omega|assumption)only[push_cast,simprocAttr,Zd,Zc,Ze,Zb,y1,Y0,b1,keyIs,Yj,b2,hf,b3,hv,b4,hx,b5,b6,Xr,Xs,Y5,fld1,Xy,Option.getD_none,stabG,stabS,Z1,Yb,Z0,Zt,Zy,Z9,Ya,Zz,Zu,Zp]|(with_reducible first|refine cB ?_ ?_|refine oB ?_ ?_|refine dB ?_ ?_)<;>intro _|with_reducible first|refine Z2 ?_ ?_|refine Z3 (by decide) ?_|refine Z4 (by decide) ?_ ?_|exact Z5|refine Zx ?_|refine Zq ?_
                  have ht:(el.take n).length=n:=by simp;omega
                  refine fin 0 _ (el.take n++[⟨s.name,s.ty⟩]++el.drop (n+1)) g (n+1) _ ?_ ?_ ?_ ?_ ?_ ?_ ?_
                  · rw [he,b5]
                  · rfl
                  · omega
                  · simp;omega
                  · omega
                  · rw [List.append_assoc,List.take_append_of_le_length (by omega),List.take_of_length_le (by omega)]
                  · intro _
                    rw [Wk,if_pos k1,List.take_append_of_le_length (by simp;omega),List.take_of_length_le (by simp;omega)]
                · have b7:el.length=n:=by omega
                  repeat' first|(with_reducible first|refine cS ?_ ?_|refine oS ?_ ?_|refine dS ?_ ?_)<;>intro _|((with_reducible refine kk ?_ ?_);·rfl)|simp -implicitDefEqProofs(disch:=first|omega|assumption)only[push_cast,simprocAttr,Zd,Zc,Ze,Zb,y1,Y0,b1,keyIs,Yj,b2,hf,b3,hv,b4,hx,b5,b6,b7,Xr,Xs,Y5,fld1,Xy,Option.getD_none,stabG,stabS,Z1,Yb,Z0,Zt,Zy,Z9,Ya,Zz,Zu,Zp]|(with_reducible first|refine cB ?_ ?_|refine oB ?_ ?_|refine dB ?_ ?_)<;>intro _|with_reducible first|refine Z2 ?_ ?_|refine Z3 (by decide) ?_|refine Z4 (by decide) ?_ ?_|exact Z5|refine Zx ?_|refine Zq ?_
                  have ht:(el.take n).length=n:=by simp;omega
                  refine fin 0 _ (el.take n++[⟨s.name,s.ty⟩]) (g+1) (n+1) _ ?_ ?_ ?_ ?_ ?_ ?_ ?_
                  · rw [he,b5]
                  · rfl
                  · omega
                  · simp;omega
                  · omega
                  · rw [List.take_append_of_le_length (by omega),List.take_of_length_le (by omega)]
                  · intro _
                    rw [Wk,if_pos k1,List.take_of_length_le (by simp;omega)]
              · repeat' first|(with_reducible first|refine cS ?_ ?_|refine oS ?_ ?_|refine dS ?_ ?_)<;>intro _|((with_reducible refine kk ?_ ?_);·rfl)|simp -implicitDefEqProofs(disch:=first|omega|assumption)only[push_cast,simprocAttr,Zd,Zc,Ze,Zb,y1,Y0,b1,keyIs,Yj,b2,hf,b3,hv,b4,hx,b5,Option.getD_none]|(with_reducible first|refine cB ?_ ?_|refine oB ?_ ?_|refine dB ?_ ?_)<;>intro _
                exact fin0 _ _ el g _ he.symm (by rfl) (.inr b5) h6 rfl
      · have b1:nameF s.name=false:=by simpa using b1
        repeat' first|(with_reducible first|refine cS ?_ ?_|refine oS ?_ ?_|refine dS ?_ ?_)<;>intro _|((with_reducible refine kk ?_ ?_);·rfl)|simp -implicitDefEqProofs(disch:=first|omega|assumption)only[push_cast,simprocAttr,Zd,Zc,Ze,Zb,y1,Y0,b1]|(with_reducible first|refine cB ?_ ?_|refine oB ?_ ?_|refine dB ?_ ?_)<;>intro _
        exact fin0 13 _ el g _ (by rw [hw,if_pos k1,if_pos (by simp [Vf,b1])]) (by rfl) (.inr (by decide)) h6 rfl
    by_cases k2:s.kind=2
    · have y2:(s.kind=2)=True:=eq_true k2
      have hq:=Uh m hm gs cg ps mn B3 h0 _ (hz1 none none rfl rfl) el g n fl la lo dp h6 (by omega) s (by omega)
      repeat' first|(with_reducible first|refine cS ?_ ?_|refine oS ?_ ?_|refine dS ?_ ?_)<;>intro _|((with_reducible refine kk ?_ ?_);·rfl)|simp -implicitDefEqProofs(disch:=first|omega|assumption)only[push_cast,simprocAttr,Zd,Zc,Ze,Zb,k1,y2,hq]|(with_reducible first|refine cB ?_ ?_|refine oB ?_ ?_|refine dB ?_ ?_)<;>intro _
      exact fin0 _ _ el g _ (by rw [hw,if_neg k1,if_pos k2]) (by rfl) (.inl k1) h6 rfl
    by_cases k3:s.kind=3
    · have hcl:obLow (h0.length+1+r.length+1) (some (.mem (clos (W8 (h0.length+1+r.length,0) s)) 1 false 1))=true:=by
        simp [obLow,clos,W8,PV.lowL,PV.low,Nat.blt_eq]
      obtain ⟨x,el',g',hq,hxe,a1,a2⟩:=if_ok m hm gs cg ps mn B3 h0 s (by omega) hb hbe r none (hz1 none _ rfl hcl) el g n fl la lo dp h1 h2 h3 h4 h5 h6
      simp only [clos,W8,Clo.v,List.map_cons,List.map_nil] at hq
      have y3:(s.kind=3)=True:=eq_true k3
      repeat' first|(with_reducible first|refine cS ?_ ?_|refine oS ?_ ?_|refine dS ?_ ?_)<;>intro _|((with_reducible refine kk ?_ ?_);·rfl)|simp -implicitDefEqProofs(disch:=first|omega|assumption)only[push_cast,simprocAttr,Zd,Zc,Ze,Zb,k1,k2,y3,hq]|(with_reducible first|refine cB ?_ ?_|refine oB ?_ ?_|refine dB ?_ ?_)<;>intro _
      exact fin0 x _ el' g' _ (by rw [hw,if_neg k1,if_neg k2,if_pos k3,hxe]) (by rfl) (.inl k1) a1 a2
    by_cases k4:s.kind=4
    · obtain ⟨el',g',hq,a1,a2⟩:=T6 m gs cg ps mn B3 h0 s hb _ (hz1 none none rfl rfl) el g n fl la lo dp h1 (by omega) h3 h4 (by omega) h6
      have y4:(s.kind=4)=True:=eq_true k4
      repeat' first|(with_reducible first|refine cS ?_ ?_|refine oS ?_ ?_|refine dS ?_ ?_)<;>intro _|((with_reducible refine kk ?_ ?_);·rfl)|simp -implicitDefEqProofs(disch:=first|omega|assumption)only[push_cast,simprocAttr,Zd,Zc,Ze,Zb,k1,k2,k3,y4,hq]|(with_reducible first|refine cB ?_ ?_|refine oB ?_ ?_|refine dB ?_ ?_)<;>intro _
      exact fin0 _ _ el' g' _ (by rw [hw,if_neg k1,if_neg k2,if_neg k3,if_pos k4]) (by rfl) (.inl k1) a1 a2
    by_cases k5:s.kind=5
    · repeat' first|(with_reducible first|refine cS ?_ ?_|refine oS ?_ ?_|refine dS ?_ ?_)<;>intro _|((with_reducible refine kk ?_ ?_);·rfl)|simp -implicitDefEqProofs(disch:=first|omega|assumption)only[push_cast,simprocAttr,Zd,Zc,Ze,Zb,k1,k2,k3,k4,k5,Yk]|(with_reducible first|refine cB ?_ ?_|refine oB ?_ ?_|refine dB ?_ ?_)<;>intro _
      exact fin0 _ _ el g _ (by rw [hw,if_neg k1,if_neg k2,if_neg k3,if_neg k4,if_pos (.inl k5)]) rfl (.inl k1) h6 rfl
    by_cases k6:s.kind=6
    · repeat' first|(with_reducible first|refine cS ?_ ?_|refine oS ?_ ?_|refine dS ?_ ?_)<;>intro _|((with_reducible refine kk ?_ ?_);·rfl)|simp -implicitDefEqProofs(disch:=first|omega|assumption)only[push_cast,simprocAttr,Zd,Zc,Ze,Zb,k1,k2,k3,k4,k5,k6,Yk]|(with_reducible first|refine cB ?_ ?_|refine oB ?_ ?_|refine dB ?_ ?_)<;>intro _
      exact fin0 _ _ el g _ (by rw [hw,if_neg k1,if_neg k2,if_neg k3,if_neg k4,if_pos (.inr k6)]) rfl (.inl k1) h6 rfl
    by_cases k7:s.kind=7
    · cases hmn:mn
      · subst hmn
        repeat' first|(with_reducible first|refine cS ?_ ?_|refine oS ?_ ?_|refine dS ?_ ?_)<;>intro _|((with_reducible refine kk ?_ ?_);·rfl)|simp -implicitDefEqProofs(disch:=first|omega|assumption)only[push_cast,simprocAttr,Zd,Zc,Ze,Zb,k1,k2,k3,k4,k5,k6,k7,Yk]|(with_reducible first|refine cB ?_ ?_|refine oB ?_ ?_|refine dB ?_ ?_)<;>intro _
        exact fin0 _ _ el g _ (by rw [hw,if_neg k1,if_neg k2,if_neg k3,if_neg k4,if_neg (by omega),if_pos k7];rfl) rfl (.inl k1) h6 rfl
      · subst hmn
        repeat' first|(with_reducible first|refine cS ?_ ?_|refine oS ?_ ?_|refine dS ?_ ?_)<;>intro _|((with_reducible refine kk ?_ ?_);·rfl)|simp -implicitDefEqProofs(disch:=first|omega|assumption)only[push_cast,simprocAttr,Zd,Zc,Ze,Zb,k1,k2,k3,k4,k5,k6,k7,Yk]|(with_reducible first|refine cB ?_ ?_|refine oB ?_ ?_|refine dB ?_ ?_)<;>intro _
        exact fin0 _ _ el g _ (by rw [hw,if_neg k1,if_neg k2,if_neg k3,if_neg k4,if_neg (by omega),if_pos k7];rfl) rfl (.inl k1) h6 rfl
    by_cases k8:s.kind=8∨s.kind=9
    · by_cases k8':s.kind=8
      · cases hmn:mn
        · subst hmn
          repeat' first|(with_reducible first|refine cS ?_ ?_|refine oS ?_ ?_|refine dS ?_ ?_)<;>intro _|((with_reducible refine kk ?_ ?_);·rfl)|simp -implicitDefEqProofs(disch:=first|omega|assumption)only[push_cast,simprocAttr,Zd,Zc,Ze,Zb,k1,k2,k3,k4,k5,k6,k7,k8',Yk]|(with_reducible first|refine cB ?_ ?_|refine oB ?_ ?_|refine dB ?_ ?_)<;>intro _
          exact fin0 _ _ el g _ (by rw [hw,if_neg k1,if_neg k2,if_neg k3,if_neg k4,if_neg (by omega),if_neg k7,if_pos k8];rfl) rfl (.inl k1) h6 rfl
        · subst hmn
          repeat' first|(with_reducible first|refine cS ?_ ?_|refine oS ?_ ?_|refine dS ?_ ?_)<;>intro _|((with_reducible refine kk ?_ ?_);·rfl)|simp -implicitDefEqProofs(disch:=first|omega|assumption)only[push_cast,simprocAttr,Zd,Zc,Ze,Zb,k1,k2,k3,k4,k5,k6,k7,k8',Yk]|(with_reducible first|refine cB ?_ ?_|refine oB ?_ ?_|refine dB ?_ ?_)<;>intro _
          exact fin0 _ _ el g _ (by rw [hw,if_neg k1,if_neg k2,if_neg k3,if_neg k4,if_neg (by omega),if_neg k7,if_pos k8];rfl) rfl (.inl k1) h6 rfl
      · have k9':=k8.resolve_left k8'
        cases hmn:mn
        · subst hmn
          repeat' first|(with_reducible first|refine cS ?_ ?_|refine oS ?_ ?_|refine dS ?_ ?_)<;>intro _|((with_reducible refine kk ?_ ?_);·rfl)|simp -implicitDefEqProofs(disch:=first|omega|assumption)only[push_cast,simprocAttr,Zd,Zc,Ze,Zb,k1,k2,k3,k4,k5,k6,k7,k8',k9',Yk]|(with_reducible first|refine cB ?_ ?_|refine oB ?_ ?_|refine dB ?_ ?_)<;>intro _
          exact fin0 _ _ el g _ (by rw [hw,if_neg k1,if_neg k2,if_neg k3,if_neg k4,if_neg (by omega),if_neg k7,if_pos k8];rfl) rfl (.inl k1) h6 rfl
        · subst hmn
          repeat' first|(with_reducible first|refine cS ?_ ?_|refine oS ?_ ?_|refine dS ?_ ?_)<;>intro _|((with_reducible refine kk ?_ ?_);·rfl)|simp -implicitDefEqProofs(disch:=first|omega|assumption)only[push_cast,simprocAttr,Zd,Zc,Ze,Zb,k1,k2,k3,k4,k5,k6,k7,k8',k9',Yk]|(with_reducible first|refine cB ?_ ?_|refine oB ?_ ?_|refine dB ?_ ?_)<;>intro _
          exact fin0 _ _ el g _ (by rw [hw,if_neg k1,if_neg k2,if_neg k3,if_neg k4,if_neg (by omega),if_neg k7,if_pos k8];rfl) rfl (.inl k1) h6 rfl
    · have k8':¬ s.kind=8:=fun h=>k8 (.inl h)
      have k9':¬ s.kind=9:=fun h=>k8 (.inr h)
      repeat' first|(with_reducible first|refine cS ?_ ?_|refine oS ?_ ?_|refine dS ?_ ?_)<;>intro _|((with_reducible refine kk ?_ ?_);·rfl)|simp -implicitDefEqProofs(disch:=first|omega|assumption)only[push_cast,simprocAttr,Zd,Zc,Ze,Zb,k1,k2,k3,k4,k5,k6,k7,k8',k9']|(with_reducible first|refine cB ?_ ?_|refine oB ?_ ?_|refine dB ?_ ?_)<;>intro _
      exact fin0 _ _ el g _ (by rw [hw,if_neg k1,if_neg k2,if_neg k3,if_neg k4,if_neg (by omega),if_neg k7,if_neg k8]) rfl (.inl k1) h6 rfl
  obtain ⟨rr,h',hd,x,rfl,hx⟩:=key (fun rr h'=>∃ x,rr=.int .i64 x∧Uz m gs cg ps mn B3 h0 r el n fl la lo dp s x h') fun x h' hx=>⟨x,rfl,hx⟩
  exact ⟨x,h',hd,hx⟩
end
end
section
section
variable (m:Mod) (hm:m.Ok) (gs:List Str) (cg:Nat) (ps:Int) (mn:Bool) (B3:List (Option Ob)) (h0:Heap)
def StOk (s:St):Prop:=∀ (r:Heap),LowZ h0 r B3→∀ (el:List Fld) (g n:Nat) (fl:Fl) (la:List Fld) (lo dp:Int),1≤dp→dp+s.sz≤4194304→0≤lo→lo≤3→n+s.sz≤1048576→n≤el.length →
  ∃ x h',doCall E (callR E) 90 [.ptr (h0.length,2) 1 0 0,s.v17] (zH m gs cg ps mn B3 h0 r el g n fl la lo dp)=some (.int .i64 x,h')∧Uz m gs cg ps mn B3 h0 r el n fl la lo dp s x h'
theorem Wx {α:Type} {l:List α} {a b:Nat} (h:a≤b):l.take a=(l.take b).take a:=by rw [List.take_take,Nat.min_eq_left h]
abbrev dsB (K:Nat):List (Option (Nat × List PV)):=[some (89,[.ptr (K,0) 1 0 0,.ptr (K,1) 1 0 0])]
set_option maxHeartbeats 8000000 in
theorem V9 (l:List St) (hl1:l.length≤1048576) {f:Fl} (hs:∀ s∈l,StOk m gs cg ps mn B3 h0 s) (hp:Heap) (hz:LowZ h0 hp B3) (w:Nat) (sc0:List Fld) (fl:Fl) (la:List Fld) (lo dp:Int) (b1:1≤dp) (b2:dp+szS l≤4194304) (b3:0≤lo) (b4:lo≤3) (fin:Int × List Fld) {ks:List KI} {Q:PEx→Fr→Prop}
    (hr:∀ t (el:List Fld) (g n:Nat) (o2:Option Ob),fin.1≠0→w≤n→n≤el.length→n≤1048576→el.take w=sc0→obLow (h0.length+1+hp.length+1) o2=true→look t 4=.int .i64 fin.1→kQ E ks Q .ret { lvl:=h0.length+1+hp.length,tmps:=mk 35 t,heap:=h0++bdL m h0.length gs cg ps mn B3 el g n fl la lo dp::(hp++[[bxB h0.length,waO w,o2]]),defers:=dsB (h0.length+1+hp.length) })
    (hn:∀ t (el:List Fld) (g n:Nat) (o2:Option Ob),fin=(0,el.take n)→w≤n→n≤el.length→n≤1048576→el.take w=sc0→obLow (h0.length+1+hp.length+1) o2=true→kQ E ks Q .norm { lvl:=h0.length+1+hp.length,tmps:=mk 35 t,heap:=h0++bdL m h0.length gs cg ps mn B3 el g n fl la lo dp::(hp++[[bxB h0.length,waO w,o2]]),defers:=dsB (h0.length+1+hp.length) }) :
    ∀ (rest pre:List St) (el:List Fld) (g n:Nat) (o2:Option Ob) (t:List (Nat × PV)),l=pre++rest→(Wa m gs ps mn lo (el.take n) rest=fin)→(w≤n)→(n≤el.length)→(n+szS rest≤1048576)→(el.take w=sc0)→(obLow (h0.length+1+hp.length+1) o2=true)→(o2=none∨∃ v k,o2=some (.mem v k false 17)) →
      look t 2=.ptr (h0.length+1+hp.length,0) 1 0 0→look t 22=.vs f (sts l)→look t 23=.int .i64 l.length→look t 24=.int .i64 pre.length →
      kQ E (.code p62l0::.blk 0::ks) Q .norm { lvl:=h0.length+1+hp.length,tmps:=mk 35 t,heap:=h0++bdL m h0.length gs cg ps mn B3 el g n fl la lo dp::(hp++[[bxB h0.length,waO w,o2]]),defers:=dsB (h0.length+1+hp.length) }:=by
  intro rest
  induction rest with
  | nil =>
    intro pre el g n o2 t hl hi0 hi1 hi2 hi3 hi4 hi5 hi6 h2 h22 h23 h24
    have e:l.length=pre.length:=by rw [hl];simp
    refine loopK' (c:=p62l0) rfl ?_
    repeat' first|(with_reducible first|refine cS ?_ ?_|refine oS ?_ ?_|refine dS ?_ ?_)<;>intro _|((with_reducible refine kk ?_ ?_);·rfl)|simp -implicitDefEqProofs(disch:=first|omega|assumption)only[push_cast,simprocAttr,Zd,Zc,Ze,Zb,h2,h22,h23,h24,e,Xk]|(with_reducible first|refine cB ?_ ?_|refine oB ?_ ?_|refine dB ?_ ?_)<;>intro _
    exact hn _ _ _ _ _ (by rw [← hi0,Wa]) hi1 hi2 (by omega) hi4 hi5
  | cons s r ih =>
    intro pre el g n o2 t hl hi0 hi1 hi2 hi3 hi4 hi5 hi6 h2 h22 h23 h24
    have e:l.length=pre.length+r.length+1:=by rw [hl];simp;omega
    have hg:(sts l)[pre.length]?=some (.agg [.int .i64 s.kind,.str s.name,.int .i64 s.ty.kind,.str s.ty.name,.int .i64 s.target.kind,.int .i64 s.target.op,.str s.target.name,.int .i64 s.target.value,.vs s.target.fl (exs s.target.args),.int .i64 s.value.kind,.int .i64 s.value.op,.str s.value.name,.int .i64 s.value.value,.vs s.value.fl (exs s.value.args),.int .i64 s.count,.vs s.fb (sts s.body),.vs s.fe (sts s.els)]):=by rw [hl,sts_map,← s.c17];exact Yd _ _ _ _
    have hsz:s.sz≤szS l:=Xb (by rw [hl];simp)
    have hs1:1≤s.sz:=by rw [s.sz_eq];omega
    simp only [szS] at hi3
    have hlz:∀ gg,LowZ h0 (hp++[[bxB h0.length,waO w,some (.mem [s.v17] gg false 17)]]) B3:=fun gg=>hz.push (by
      simp only [List.all_cons,List.all_nil,Bool.and_true]
      rw [Vl (by omega)]
      simp [obLow,PV.lowL,PV.low])
    have hq:∀ gg,∃ x el' g' n',doCall E (callR E) 90 [.ptr (h0.length,2) 1 0 0,s.v17] (h0++bdL m h0.length gs cg ps mn B3 el g n fl la lo dp::(hp++[[bxB h0.length,waO w,some (.mem [s.v17] gg false 17)]]))=some (.int .i64 x,h0++bdL m h0.length gs cg ps mn B3 el' g' n' fl la lo dp::(hp++[[bxB h0.length,waO w,some (.mem [s.v17] gg false 17)]]))∧x=W0 m gs ps mn lo (el.take n) s∧n≤n'∧n'≤el'.length∧n'≤n+1∧el'.take n=el.take n∧(x=0→el'.take n'=Wk (el.take n) s):=by
      intro gg
      obtain ⟨x,h',hd,hx,el',g',n',rfl,a1,a2,a3,a4,a5⟩:=hs s (by rw [hl];simp) _ (hlz gg) el g n fl la lo dp b1 (by omega) b3 b4 (by omega) hi2
      exact ⟨x,el',g',n',hd,hx,a1,a2,a3,a4,a5⟩
    rcases hi6 with e2|⟨v2,k2,e2⟩
    · subst e2
      obtain ⟨x,el',g',n',hd,hx,a1,a2,a3,a4,a5⟩:=hq 1
      have hw:el'.take w=sc0:=by rw [← hi4,Wx hi1,Wx (l:=el) hi1,a4]
      by_cases hx0:x=0
      · subst hx0
        refine loopK' (c:=p62l0) rfl ?_
        repeat' first|(with_reducible first|refine cS ?_ ?_|refine oS ?_ ?_|refine dS ?_ ?_)<;>intro _|((with_reducible refine kk ?_ ?_);·rfl)|simp -implicitDefEqProofs(disch:=first|omega|assumption)only[push_cast,simprocAttr,Zd,Zc,Ze,Zb,h2,h22,h23,h24,hg,hd]|(with_reducible first|refine cB ?_ ?_|refine oB ?_ ?_|refine dB ?_ ?_)<;>intro _
        refine ih (pre++[s]) el' g' n' _ _ (by simp [hl]) (by rw [a5 rfl,← hi0,Wa,if_neg (by simp [← hx])]) (by omega) a2 (by omega) hw (by simp [obLow,PV.lowL,PV.low]) (.inr ⟨_,_,rfl⟩) (by simp [look,Za,h2]) (by simp [look,Za,h22]) (by simp [look,Za,h23]) (by simp [look,Za,h24])
      · refine loopK' (c:=p62l0) rfl ?_
        repeat' first|(with_reducible first|refine cS ?_ ?_|refine oS ?_ ?_|refine dS ?_ ?_)<;>intro _|((with_reducible refine kk ?_ ?_);·rfl)|simp -implicitDefEqProofs(disch:=first|omega|assumption)only[push_cast,simprocAttr,Zd,Zc,Ze,Zb,h2,h22,h23,h24,hg,hd,hx0]|(with_reducible first|refine cB ?_ ?_|refine oB ?_ ?_|refine dB ?_ ?_)<;>intro _
        have hf:fin.1=x:=by rw [← hi0,Wa,if_pos (by rw [← hx];exact hx0),hx]
        exact hr _ el' g' n' _ (by rw [hf];exact hx0) (by omega) a2 (by omega) hw (by simp [obLow,PV.lowL,PV.low]) (by rw [hf];rfl)
    · subst e2
      obtain ⟨x,el',g',n',hd,hx,a1,a2,a3,a4,a5⟩:=hq (k2+1)
      have hw:el'.take w=sc0:=by rw [← hi4,Wx hi1,Wx (l:=el) hi1,a4]
      by_cases hx0:x=0
      · subst hx0
        refine loopK' (c:=p62l0) rfl ?_
        repeat' first|(with_reducible first|refine cS ?_ ?_|refine oS ?_ ?_|refine dS ?_ ?_)<;>intro _|((with_reducible refine kk ?_ ?_);·rfl)|simp -implicitDefEqProofs(disch:=first|omega|assumption)only[push_cast,simprocAttr,Zd,Zc,Ze,Zb,h2,h22,h23,h24,hg,hd]|(with_reducible first|refine cB ?_ ?_|refine oB ?_ ?_|refine dB ?_ ?_)<;>intro _
        refine ih (pre++[s]) el' g' n' _ _ (by simp [hl]) (by rw [a5 rfl,← hi0,Wa,if_neg (by simp [← hx])]) (by omega) a2 (by omega) hw (by simp [obLow,PV.lowL,PV.low]) (.inr ⟨_,_,rfl⟩) (by simp [look,Za,h2]) (by simp [look,Za,h22]) (by simp [look,Za,h23]) (by simp [look,Za,h24])
      · refine loopK' (c:=p62l0) rfl ?_
        repeat' first|(with_reducible first|refine cS ?_ ?_|refine oS ?_ ?_|refine dS ?_ ?_)<;>intro _|((with_reducible refine kk ?_ ?_);·rfl)|simp -implicitDefEqProofs(disch:=first|omega|assumption)only[push_cast,simprocAttr,Zd,Zc,Ze,Zb,h2,h22,h23,h24,hg,hd,hx0]|(with_reducible first|refine cB ?_ ?_|refine oB ?_ ?_|refine dB ?_ ?_)<;>intro _
        have hf:fin.1=x:=by rw [← hi0,Wa,if_pos (by rw [← hx];exact hx0),hx]
        exact hr _ el' g' n' _ (by rw [hf];exact hx0) (by omega) a2 (by omega) hw (by simp [obLow,PV.lowL,PV.low]) (by rw [hf];rfl)
set_option maxHeartbeats 8000000 in
theorem V8 (l:List St) (hs:∀ s∈l,StOk m gs cg ps mn B3 h0 s):BOk m gs cg ps mn B3 h0 l:=by
  intro f r hz el g n fl la lo dp h1 h2 h3 h4 h5 h6
  have hl1:=szS_len l
  have key:∀ P:PV→Heap→Prop,(∀ (el':List Fld) (g':Nat),n≤el'.length→el'.take n=el.take n→P (.int .i64 (Wa m gs ps mn lo (el.take n) l).1) (zH m gs cg ps mn B3 h0 r el' g' n fl la lo dp)) →
      ∃ rr h',doCall E (callR E) 62 [.ptr (h0.length,2) 1 0 0,.vs f (sts l)] (zH m gs cg ps mn B3 h0 r el g n fl la lo dp)=some (rr,h')∧P rr h':=by
    intro P hP
    refine call_impXD (pf:=p62) rfl rfl rfl rfl rfl ?_
    show kQ E _ (endXD E [⟨4,none⟩] _ _) .norm { lvl:=h0.length+1+r.length,tmps:=mk 35 [(0,.ptr (h0.length,2) 1 0 0),(1,.vs f (sts l))],heap:=h0++bdL m h0.length gs cg ps mn B3 el g n fl la lo dp::(r++[[none,none,none]]),defers:=[] }
    have fin:∀ (t:List (Nat × PV)) (el':List Fld) (g' n':Nat) (o2:Option Ob),look t 4=.int .i64 (Wa m gs ps mn lo (el.take n) l).1→n≤n'→n'≤el'.length→n'≤1048576→el'.take n=el.take n→obLow (h0.length+1+r.length+1) o2=true →
        endXD E [⟨4,none⟩] (h0.length+1+r.length) P .ret { lvl:=h0.length+1+r.length,tmps:=mk 35 t,heap:=h0++bdL m h0.length gs cg ps mn B3 el' g' n' fl la lo (dp+1)::(r++[[bxB h0.length,waO n,o2]]),defers:=dsB (h0.length+1+r.length) }:=by
      intro t el' g' n' o2 hx a1 a2 a3 a4 a5
      have hlz:LowZ h0 (r++[[bxB h0.length,waO n,o2]]) B3:=hz.push (by
        simp only [List.all_cons,List.all_nil,Bool.and_true,a5]
        rw [Vl (by omega)]
        simp [obLow,PV.lowL,PV.low])
      refine endXD_ret (dfs_one (Rj m gs cg ps mn B3 h0 r [o2] n hlz el' g' n' fl la lo dp h1 (by omega) a1 a2 a3)) (Wg hx) (by rw [zt_t];exact hz.all m el' g' n fl la lo dp) rfl ?_
      rw [zt_t]
      exact hP el' g' (by omega) a4
    repeat' first|(with_reducible first|refine cS ?_ ?_|refine oS ?_ ?_|refine dS ?_ ?_)<;>intro _|((with_reducible refine kk ?_ ?_);·rfl)|simp -implicitDefEqProofs(disch:=first|omega|assumption)only[push_cast,simprocAttr,Zd,Zc,Ze,Zb,Xk]|(with_reducible first|refine cB ?_ ?_|refine oB ?_ ?_|refine dB ?_ ?_)<;>intro _
    with_reducible refine V9 m gs cg ps mn B3 h0 l (by omega) (f:=f) hs r hz n (el.take n) fl la lo (dp+1) (by omega) (by omega) h3 h4 (Wa m gs ps mn lo (el.take n) l) ?_ ?_ l [] el g n none _ rfl rfl (Nat.le_refl _) h6 h5 rfl rfl (.inl rfl) (by simp [look,Za]) (by simp [look,Za]) (by simp [look,Za]) (by simp [look,Za])
    · intro t el' g' n' o2 he a1 a2 a3 a4 a5 hx
      repeat' first|(with_reducible first|refine cS ?_ ?_|refine oS ?_ ?_|refine dS ?_ ?_)<;>intro _|((with_reducible refine kk ?_ ?_);·rfl)|simp -implicitDefEqProofs(disch:=first|omega|assumption)only[push_cast,simprocAttr,Zd,Zc,Ze,Zb]|(with_reducible first|refine cB ?_ ?_|refine oB ?_ ?_|refine dB ?_ ?_)<;>intro _
      exact fin t el' g' n' o2 hx a1 a2 a3 a4 a5
    · intro t el' g' n' o2 he a1 a2 a3 a4 a5
      repeat' first|(with_reducible first|refine cS ?_ ?_|refine oS ?_ ?_|refine dS ?_ ?_)<;>intro _|((with_reducible refine kk ?_ ?_);·rfl)|simp -implicitDefEqProofs(disch:=first|omega|assumption)only[push_cast,simprocAttr,Zd,Zc,Ze,Zb]|(with_reducible first|refine cB ?_ ?_|refine oB ?_ ?_|refine dB ?_ ?_)<;>intro _
      exact fin _ el' g' n' o2 (by rw [he];rfl) a1 a2 a3 a4 a5
  obtain ⟨rr,h',hd,el',g',rfl,rfl,a1,a2⟩:=key (fun rr h'=>∃ el' g',rr=.int .i64 (Wa m gs ps mn lo (el.take n) l).1∧h'=zH m gs cg ps mn B3 h0 r el' g' n fl la lo dp∧n≤el'.length∧el'.take n=el.take n) fun el' g' a1 a2=>⟨el',g',rfl,rfl,a1,a2⟩
  exact ⟨el',g',hd,a1,a2⟩
end
end
section
section
variable (m:Mod) (hm:m.Ok) (gs:List Str) (cg:Nat) (ps:Int) (mn:Bool) (B3:List (Option Ob)) (h0:Heap)
include hm in
theorem all_ok:∀ (k:Nat) (l:List St),szS l≤k→szS l≤1048576→∀ s∈l,StOk m gs cg ps mn B3 h0 s:=by
  intro k
  induction k with
  | zero =>
    intro l hk hb s hs
    have h1:=Xb hs
    have h2:=s.sz_eq
    omega
  | succ k ih =>
    intro l hk hb s hs
    have h1:=Xb hs
    have h2:=s.sz_eq
    have q1:=V8 m gs cg ps mn B3 h0 s.body (ih s.body (by omega) (by omega))
    have q2:=V8 m gs cg ps mn B3 h0 s.els (ih s.els (by omega) (by omega))
    intro r hz el g n fl la lo dp a1 a2 a3 a4 a5 a6
    exact T5 m hm gs cg ps mn B3 h0 s q1 q2 r hz el g n fl la lo dp a1 a2 a3 a4 a5 a6
include hm in
set_option maxHeartbeats 8000000 in
theorem Uy (l:List St) (hb:szS l≤1048576) (f:Fl) (r:Heap) (hz:LowZ h0 r B3) (el:List Fld) (g n:Nat) (fl:Fl) (la:List Fld) (h5:n+szS l≤1048576) (h6:n≤el.length) :
    ∃ el' g' fl' la',doCall E (callR E) 62 [.ptr (h0.length,2) 1 0 0,.vs f (sts l)] (zH m gs cg ps mn B3 h0 r el g n fl la 0 0)=some (.int .i64 (Wa m gs ps mn 0 (el.take n) l).1,zH m gs cg ps mn B3 h0 r el' g' n fl' la' 0 0)∧n≤el'.length∧el'.take n=el.take n∧n+la'.length≤1048576∧((Wa m gs ps mn 0 (el.take n) l).1=0→el.take n++la'=(Wa m gs ps mn 0 (el.take n) l).2):=by
  have hs:=all_ok m hm gs cg ps mn B3 h0 _ l (Nat.le_refl _) hb
  have hl1:=szS_len l
  have key:∀ P:PV→Heap→Prop,(∀ (el':List Fld) (g':Nat) (fl':Fl) (la':List Fld),n≤el'.length→el'.take n=el.take n→n+la'.length≤1048576→((Wa m gs ps mn 0 (el.take n) l).1=0→el.take n++la'=(Wa m gs ps mn 0 (el.take n) l).2)→P (.int .i64 (Wa m gs ps mn 0 (el.take n) l).1) (zH m gs cg ps mn B3 h0 r el' g' n fl' la' 0 0)) →
      ∃ rr h',doCall E (callR E) 62 [.ptr (h0.length,2) 1 0 0,.vs f (sts l)] (zH m gs cg ps mn B3 h0 r el g n fl la 0 0)=some (rr,h')∧P rr h':=by
    intro P hP
    refine call_impXD (pf:=p62) rfl rfl rfl rfl rfl ?_
    show kQ E _ (endXD E [⟨4,none⟩] _ _) .norm { lvl:=h0.length+1+r.length,tmps:=mk 35 [(0,.ptr (h0.length,2) 1 0 0),(1,.vs f (sts l))],heap:=h0++bdL m h0.length gs cg ps mn B3 el g n fl la 0 0::(r++[[none,none,none]]),defers:=[] }
    have fin:∀ (t:List (Nat × PV)) (el':List Fld) (g' n':Nat) (o2:Option Ob),look t 4=.int .i64 (Wa m gs ps mn 0 (el.take n) l).1→n≤n'→n'≤el'.length→n'≤1048576→el'.take n=el.take n→obLow (h0.length+1+r.length+1) o2=true→((Wa m gs ps mn 0 (el.take n) l).1=0→el'.take n'=(Wa m gs ps mn 0 (el.take n) l).2) →
        endXD E [⟨4,none⟩] (h0.length+1+r.length) P .ret { lvl:=h0.length+1+r.length,tmps:=mk 35 t,heap:=h0++bdL m h0.length gs cg ps mn B3 el' g' n' fl la 0 1::(r++[[bxB h0.length,waO n,o2]]),defers:=dsB (h0.length+1+r.length) }:=by
      intro t el' g' n' o2 hx a1 a2 a3 a4 a5 a6
      have hlz:LowZ h0 (r++[[bxB h0.length,waO n,o2]]) B3:=hz.push (by
        simp only [List.all_cons,List.all_nil,Bool.and_true,a5]
        rw [Vl (by omega)]
        simp [obLow,PV.lowL,PV.low])
      refine endXD_ret (dfs_one (T1 m gs cg ps mn B3 h0 r [o2] n hlz el' g' n' fl la 0 a1 a2 a3)) (Wg hx) (by rw [zt_t];exact hz.all m el' g' n .any _ 0 0) rfl ?_
      rw [zt_t]
      refine hP el' g' .any _ (by omega) a4 (by simp;omega) fun he=>?_
      rw [← a6 he,← a4]
      have:el'.take n'=(el'.take n').take n++(el'.take n').drop n:=(List.take_append_drop n _).symm
      rw [this,← Wx a1,List.drop_take]
    repeat' first|(with_reducible first|refine cS ?_ ?_|refine oS ?_ ?_|refine dS ?_ ?_)<;>intro _|((with_reducible refine kk ?_ ?_);·rfl)|simp -implicitDefEqProofs(disch:=first|omega|assumption)only[push_cast,simprocAttr,Zd,Zc,Ze,Zb,Xk]|(with_reducible first|refine cB ?_ ?_|refine oB ?_ ?_|refine dB ?_ ?_)<;>intro _
    with_reducible refine V9 m gs cg ps mn B3 h0 l (by omega) (f:=f) hs r hz n (el.take n) fl la 0 1 (by omega) (by omega) (by omega) (by omega) (Wa m gs ps mn 0 (el.take n) l) ?_ ?_ l [] el g n none _ rfl rfl (Nat.le_refl _) h6 h5 rfl rfl (.inl rfl) (by simp [look,Za]) (by simp [look,Za]) (by simp [look,Za]) (by simp [look,Za])
    · intro t el' g' n' o2 he a1 a2 a3 a4 a5 hx
      repeat' first|(with_reducible first|refine cS ?_ ?_|refine oS ?_ ?_|refine dS ?_ ?_)<;>intro _|((with_reducible refine kk ?_ ?_);·rfl)|simp -implicitDefEqProofs(disch:=first|omega|assumption)only[push_cast,simprocAttr,Zd,Zc,Ze,Zb]|(with_reducible first|refine cB ?_ ?_|refine oB ?_ ?_|refine dB ?_ ?_)<;>intro _
      exact fin t el' g' n' o2 hx a1 a2 a3 a4 a5 fun h=>absurd h he
    · intro t el' g' n' o2 he a1 a2 a3 a4 a5
      repeat' first|(with_reducible first|refine cS ?_ ?_|refine oS ?_ ?_|refine dS ?_ ?_)<;>intro _|((with_reducible refine kk ?_ ?_);·rfl)|simp -implicitDefEqProofs(disch:=first|omega|assumption)only[push_cast,simprocAttr,Zd,Zc,Ze,Zb]|(with_reducible first|refine cB ?_ ?_|refine oB ?_ ?_|refine dB ?_ ?_)<;>intro _
      exact fin _ el' g' n' o2 (by rw [he];rfl) a1 a2 a3 a4 a5 fun _=>by rw [he]
  obtain ⟨rr,h',hd,el',g',fl',la',rfl,rfl,a⟩:=key (fun rr h'=>∃ el' g' fl' la',rr=.int .i64 (Wa m gs ps mn 0 (el.take n) l).1∧h'=zH m gs cg ps mn B3 h0 r el' g' n fl' la' 0 0∧n≤el'.length∧el'.take n=el.take n∧n+la'.length≤1048576∧((Wa m gs ps mn 0 (el.take n) l).1=0→el.take n++la'=(Wa m gs ps mn 0 (el.take n) l).2)) fun el' g' fl' la' a1 a2 a3 a4=>⟨el',g',fl',la',rfl,rfl,a1,a2,a3,a4⟩
  exact ⟨el',g',fl',la',hd,a⟩
end
end
section
abbrev zs (n:Nat):List PV:=List.replicate n (.str [])
theorem Wp (L:List (Option Ob)):doCall E (callR E) 118 [.vs .nil [],.int .i64 0] [L]=some (.vs .nil [],[L,[none]]):=by
  have key:∀ P:PV→Heap→Prop,P (.vs .nil []) [L,[none]]→∃ rr H,doCall E (callR E) 118 [.vs .nil [],.int .i64 0] [L]=some (rr,H)∧P rr H:=by
    intro P hP
    refine call_keep (pf:=p118) rfl rfl rfl rfl rfl ?_
    show kQ E _ (endK [⟨4,none⟩] _) .norm { lvl:=1,tmps:=mk 27 [(0,.vs .nil []),(1,.int .i64 0)],heap:=[L,[none]],defers:=[] }
    repeat' first|(with_reducible first|refine cS ?_ ?_|refine oS ?_ ?_|refine dS ?_ ?_)<;>intro _|((with_reducible refine kk ?_ ?_);·rfl)|simp -implicitDefEqProofs(disch:=first|omega|assumption)only[push_cast,simprocAttr,Zd,Zc,Ze,Zb,boundsE,bound,headSz_nil]|(with_reducible first|refine cB ?_ ?_|refine oB ?_ ?_|refine dB ?_ ?_)<;>intro _
    exact endK_ret (Wg rfl) hP
  obtain ⟨rr,H,hd,rfl,rfl⟩:=key (fun rr H=>rr=.vs .nil []∧H=[L,[none]]) ⟨rfl,rfl⟩
  exact hd
set_option maxHeartbeats 4000000 in
theorem Ri (n:Nat) (h0:¬ n=0) (hn:n≤4194304) (L:List (Option Ob)):doCall E (callR E) 118 [.vs .nil [],.int .i64 n] [L]=some (.sl (1,0) 1 0 0,[L,[some (.mem (zs n) 1 true 1)]]):=by
  have key:∀ P:PV→Heap→Prop,P (.sl (1,0) 1 0 0) [L,[some (.mem (zs n) 1 true 1)]]→∃ rr H,doCall E (callR E) 118 [.vs .nil [],.int .i64 n] [L]=some (rr,H)∧P rr H:=by
    intro P hP
    refine call_keep (pf:=p118) rfl rfl rfl rfl rfl ?_
    show kQ E _ (endK [⟨4,none⟩] _) .norm { lvl:=1,tmps:=mk 27 [(0,.vs .nil []),(1,.int .i64 n)],heap:=[L,[none]],defers:=[] }
    have h1:(n:Int)>0:=by omega
    have h2:(n:Int) - 0=n:=by omega
    have h3:headSz 1 (zs n)=true:=by cases n<;>rfl
    have h4:¬ (n:Int)<0:=by omega
    have h5:(n:Int).toNat=n:=Int.toNat_natCast n
    repeat' first|(with_reducible first|refine cS ?_ ?_|refine oS ?_ ?_|refine dS ?_ ?_)<;>intro _|((with_reducible refine kk ?_ ?_);·rfl)|simp -implicitDefEqProofs(disch:=first|omega|assumption)only[push_cast,simprocAttr,Zd,Zc,Ze,Zb,h0,h1,h2,h3,h4,h5,boundsE,bound,headSz_nil,List.length_replicate,Option.isNone_none,Option.isSome_none]|(with_reducible first|refine cB ?_ ?_|refine oB ?_ ?_|refine dB ?_ ?_)<;>intro _
    exact endK_ret (Wg rfl) hP
  obtain ⟨rr,H,hd,rfl,rfl⟩:=key (fun rr H=>rr=.sl (1,0) 1 0 0∧H=[L,[some (.mem (zs n) 1 true 1)]]) ⟨rfl,rfl⟩
  exact hd
theorem Rd {a b:List Str}:strs a++strs b=strs (a++b):=by simp [strs]
theorem Ws {a:List Str}:headSz 1 (strs a)=true:=by cases a<;>rfl
theorem W9 {l:List (Option Ob)} {r:Heap}:(l::r).getD 0 []=l:=rfl
set_option maxHeartbeats 4000000 in
theorem cc0_ok (ta tb:Fl) (h:Heap):doCall E (callR E) 88 [.vs .clip [.vs ta [],.vs tb []]] h=some (.vs .any [],h):=by
  refine Zg (pf:=p88) rfl rfl rfl rfl (by simp [PV.lowL,PV.low]) (by simp [PV.low,PV.lowL]) ?_ h
  show kQ E _ (endQ [⟨2,none⟩] _) .norm { lvl:=0,tmps:=mk 36 [(0,.vs .clip [.vs ta [],.vs tb []])],heap:=[[none]],defers:=[] }
  repeat' first|(with_reducible first|refine cS ?_ ?_|refine oS ?_ ?_|refine dS ?_ ?_)<;>intro _|((with_reducible refine kk ?_ ?_);·rfl)|simp -implicitDefEqProofs(disch:=first|omega|assumption)only[push_cast,simprocAttr,Zd,Zc,Ze,Zb]|(with_reducible first|refine cB ?_ ?_|refine oB ?_ ?_|refine dB ?_ ?_)<;>intro _
  refine loopK' (c:=p88l0) rfl ?_
  repeat' first|(with_reducible first|refine cS ?_ ?_|refine oS ?_ ?_|refine dS ?_ ?_)<;>intro _|((with_reducible refine kk ?_ ?_);·rfl)|simp -implicitDefEqProofs(disch:=first|omega|assumption)only[push_cast,simprocAttr,Zd,Zc,Ze,Zb,Wp,W9]|(with_reducible first|refine cB ?_ ?_|refine oB ?_ ?_|refine dB ?_ ?_)<;>intro _
  refine loopK' (c:=p88l0) rfl ?_
  repeat' first|(with_reducible first|refine cS ?_ ?_|refine oS ?_ ?_|refine dS ?_ ?_)<;>intro _|((with_reducible refine kk ?_ ?_);·rfl)|simp -implicitDefEqProofs(disch:=first|omega|assumption)only[push_cast,simprocAttr,Zd,Zc,Ze,Zb,Wp,W9]|(with_reducible first|refine cB ?_ ?_|refine oB ?_ ?_|refine dB ?_ ?_)<;>intro _
  refine loopK' (c:=p88l0) rfl ?_
  repeat' first|(with_reducible first|refine cS ?_ ?_|refine oS ?_ ?_|refine dS ?_ ?_)<;>intro _|((with_reducible refine kk ?_ ?_);·rfl)|simp -implicitDefEqProofs(disch:=first|omega|assumption)only[push_cast,simprocAttr,Zd,Zc,Ze,Zb,Wp,W9]|(with_reducible first|refine cB ?_ ?_|refine oB ?_ ?_|refine dB ?_ ?_)<;>intro _
  refine loopK' (c:=p88l1) rfl ?_
  repeat' first|(with_reducible first|refine cS ?_ ?_|refine oS ?_ ?_|refine dS ?_ ?_)<;>intro _|((with_reducible refine kk ?_ ?_);·rfl)|simp -implicitDefEqProofs(disch:=first|omega|assumption)only[push_cast,simprocAttr,Zd,Zc,Ze,Zb,Wp,W9]|(with_reducible first|refine cB ?_ ?_|refine oB ?_ ?_|refine dB ?_ ?_)<;>intro _
  refine loopK' (c:=p88l1) rfl ?_
  repeat' first|(with_reducible first|refine cS ?_ ?_|refine oS ?_ ?_|refine dS ?_ ?_)<;>intro _|((with_reducible refine kk ?_ ?_);·rfl)|simp -implicitDefEqProofs(disch:=first|omega|assumption)only[push_cast,simprocAttr,Zd,Zc,Ze,Zb,Wp,W9]|(with_reducible first|refine cB ?_ ?_|refine oB ?_ ?_|refine dB ?_ ?_)<;>intro _
  refine loopK' (c:=p88l1) rfl ?_
  repeat' first|(with_reducible first|refine cS ?_ ?_|refine oS ?_ ?_|refine dS ?_ ?_)<;>intro _|((with_reducible refine kk ?_ ?_);·rfl)|simp -implicitDefEqProofs(disch:=first|omega|assumption)only[push_cast,simprocAttr,Zd,Zc,Ze,Zb,Wp,W9]|(with_reducible first|refine cB ?_ ?_|refine oB ?_ ?_|refine dB ?_ ?_)<;>intro _
set_option maxHeartbeats 4000000 in
theorem cc1_ok (ta tb:Fl) (a b:List Str) (la:a.length≤1048576) (lb:b.length≤1048576) (h0:¬ a.length+b.length=0) (h:Heap):doCall E (callR E) 88 [.vs .clip [.vs ta (strs a),.vs tb (strs b)]] h=some (.vs .any (strs (a++b)),h):=by
  have hg:=Ri (a.length+b.length) h0 (by omega)
  rw [Int.natCast_add] at hg
  have e1:a.length≤a.length+b.length:=by omega
  have e2:(0:Int)+a.length=a.length:=by omega
  refine Zg (pf:=p88) rfl rfl rfl rfl (by simp [PV.lowL,PV.low]) (by simp [PV.low,PV.lowL]) ?_ h
  show kQ E _ (endQ [⟨2,none⟩] _) .norm { lvl:=0,tmps:=mk 36 [(0,.vs .clip [.vs ta (strs a),.vs tb (strs b)])],heap:=[[none]],defers:=[] }
  repeat' first|(with_reducible first|refine cS ?_ ?_|refine oS ?_ ?_|refine dS ?_ ?_)<;>intro _|((with_reducible refine kk ?_ ?_);·rfl)|simp -implicitDefEqProofs(disch:=first|omega|assumption)only[push_cast,simprocAttr,Zd,Zc,Ze,Zb]|(with_reducible first|refine cB ?_ ?_|refine oB ?_ ?_|refine dB ?_ ?_)<;>intro _
  refine loopK' (c:=p88l0) rfl ?_
  repeat' first|(with_reducible first|refine cS ?_ ?_|refine oS ?_ ?_|refine dS ?_ ?_)<;>intro _|((with_reducible refine kk ?_ ?_);·rfl)|simp -implicitDefEqProofs(disch:=first|omega|assumption)only[push_cast,simprocAttr,Zd,Zc,Ze,Zb,hg,W9,Ws,List.length_replicate,List.length_drop,e1,e2]|(with_reducible first|refine cB ?_ ?_|refine oB ?_ ?_|refine dB ?_ ?_)<;>intro _
  refine loopK' (c:=p88l0) rfl ?_
  repeat' first|(with_reducible first|refine cS ?_ ?_|refine oS ?_ ?_|refine dS ?_ ?_)<;>intro _|((with_reducible refine kk ?_ ?_);·rfl)|simp -implicitDefEqProofs(disch:=first|omega|assumption)only[push_cast,simprocAttr,Zd,Zc,Ze,Zb,hg,W9,Ws,List.length_replicate,List.length_drop,e1,e2]|(with_reducible first|refine cB ?_ ?_|refine oB ?_ ?_|refine dB ?_ ?_)<;>intro _
  refine loopK' (c:=p88l0) rfl ?_
  repeat' first|(with_reducible first|refine cS ?_ ?_|refine oS ?_ ?_|refine dS ?_ ?_)<;>intro _|((with_reducible refine kk ?_ ?_);·rfl)|simp -implicitDefEqProofs(disch:=first|omega|assumption)only[push_cast,simprocAttr,Zd,Zc,Ze,Zb,hg,W9,Ws,List.length_replicate,List.length_drop,e1,e2]|(with_reducible first|refine cB ?_ ?_|refine oB ?_ ?_|refine dB ?_ ?_)<;>intro _
  refine loopK' (c:=p88l1) rfl ?_
  repeat' first|(with_reducible first|refine cS ?_ ?_|refine oS ?_ ?_|refine dS ?_ ?_)<;>intro _|((with_reducible refine kk ?_ ?_);·rfl)|simp -implicitDefEqProofs(disch:=first|omega|assumption)only[push_cast,simprocAttr,Zd,Zc,Ze,Zb,hg,W9,Ws,List.length_replicate,List.length_drop,e1,e2]|(with_reducible first|refine cB ?_ ?_|refine oB ?_ ?_|refine dB ?_ ?_)<;>intro _
  refine loopK' (c:=p88l1) rfl ?_
  repeat' first|(with_reducible first|refine cS ?_ ?_|refine oS ?_ ?_|refine dS ?_ ?_)<;>intro _|((with_reducible refine kk ?_ ?_);·rfl)|simp -implicitDefEqProofs(disch:=first|omega|assumption)only[push_cast,simprocAttr,Zd,Zc,Ze,Zb,hg,W9,Ws,List.length_replicate,List.length_drop,e1,e2]|(with_reducible first|refine cB ?_ ?_|refine oB ?_ ?_|refine dB ?_ ?_)<;>intro _
  refine loopK' (c:=p88l1) rfl ?_
  repeat' first|(with_reducible first|refine cS ?_ ?_|refine oS ?_ ?_|refine dS ?_ ?_)<;>intro _|((with_reducible refine kk ?_ ?_);·rfl)|simp -implicitDefEqProofs(disch:=first|omega|assumption)only[push_cast,simprocAttr,Zd,Zc,Ze,Zb,hg,W9,Ws,List.length_replicate,List.length_drop,e1,e2]|(with_reducible first|refine cB ?_ ?_|refine oB ?_ ?_|refine dB ?_ ?_)<;>intro _
  have t0:∀ (x:List Str) (X:List PV) (n:Nat),x.length=n→(strs x++X).take n=strs x:=fun x X n hn=>by rw [List.take_append_of_le_length (by rw [strs_len];omega),List.take_of_length_le (by rw [strs_len];omega)]
  rw [if_pos (by simp [strs_len])]
  repeat' first|(with_reducible first|refine cS ?_ ?_|refine oS ?_ ?_|refine dS ?_ ?_)<;>intro _|((with_reducible refine kk ?_ ?_);·rfl)|simp -implicitDefEqProofs(disch:=first|omega|assumption)only[push_cast,simprocAttr,Zd,Zc,Ze,Zb]|(with_reducible first|refine cB ?_ ?_|refine oB ?_ ?_|refine dB ?_ ?_)<;>intro _
  rw [t0 a _ _ rfl,Rd,t0 (a++b) _ _ (by simp)]
theorem cc_ok (ta tb:Fl) (a b:List Str) (la:a.length≤1048576) (lb:b.length≤1048576) (h:Heap):doCall E (callR E) 88 [.vs .clip [.vs ta (strs a),.vs tb (strs b)]] h=some (.vs .any (strs (a++b)),h):=by
  by_cases h0:a.length+b.length=0
  · obtain rfl:a=[]:=List.eq_nil_of_length_eq_zero (by omega)
    obtain rfl:b=[]:=List.eq_nil_of_length_eq_zero (by omega)
    exact cc0_ok ta tb h
  · exact cc1_ok ta tb a b la lb h0 h
end
end Go.VI.S
