/- Chapter 20: built-in functions of values. -/
import Derived.Test.YtefikcjiblkmgaaGreatDoorMA
import Derived.Test.YtefikcjiblkmgaaGreatDoorVi46
set_option maxRecDepth 100000
set_option linter.unusedSimpArgs false
set_option linter.unusedVariables false
set_option linter.unusedSectionVars false
namespace Go.VI.S
open Go.VI
section
theorem equal_own (f:Fl) (ts:List Ty) (t0:Ty) (hb:ts.length≤1048576) (o0 o1 o3:Option Ob):doCall E (callR E) 160 [.vs f (tys ts),.ptr (0,2) 1 0 0] [[o0,o1,some (.mem [.agg [.int .i64 t0.kind,.str t0.name]] 1 false 2),o3]]=some (.bool (allSame ts t0),[[o0,o1,some (.mem [.agg [.int .i64 t0.kind,.str t0.name]] 1 false 2),o3]]):=by
  refine call_snap (pf:=p160) (args':=[.vs f (tys ts),.ip [.int .i64 t0.kind,.str t0.name]]) rfl rfl (by simp [PV.lowL,PV.low,Zr];rfl) ?_ (by simp [PV.lowL,PV.low,Zr]) (equal_ok f ts t0 hb _) rfl
  simp [mapO,snap,PV.low,PV.lowL,Zr,hget,PV.cells]
theorem Xh (f:Fl) (a t0:Ty) (o0 o1 o3:Option Ob):doCall E (callR E) 160 [.vs f [.agg [.int .i64 a.kind,.str a.name]],.ptr (0,2) 1 0 0] [[o0,o1,some (.mem [.agg [.int .i64 t0.kind,.str t0.name]] 1 false 2),o3]]=some (.bool (allSame [a] t0),[[o0,o1,some (.mem [.agg [.int .i64 t0.kind,.str t0.name]] 1 false 2),o3]]):=equal_own f [a] t0 (by simp) o0 o1 o3
theorem Xg (f:Fl) (a b t0:Ty) (o0 o1 o3:Option Ob):doCall E (callR E) 160 [.vs f [.agg [.int .i64 a.kind,.str a.name],.agg [.int .i64 b.kind,.str b.name]],.ptr (0,2) 1 0 0] [[o0,o1,some (.mem [.agg [.int .i64 t0.kind,.str t0.name]] 1 false 2),o3]]=some (.bool (allSame [a,b] t0),[[o0,o1,some (.mem [.agg [.int .i64 t0.kind,.str t0.name]] 1 false 2),o3]]):=equal_own f [a,b] t0 (by simp) o0 o1 o3
theorem Xf (f:Fl) (a b c t0:Ty) (o0 o1 o3:Option Ob):doCall E (callR E) 160 [.vs f [.agg [.int .i64 a.kind,.str a.name],.agg [.int .i64 b.kind,.str b.name],.agg [.int .i64 c.kind,.str c.name]],.ptr (0,2) 1 0 0] [[o0,o1,some (.mem [.agg [.int .i64 t0.kind,.str t0.name]] 1 false 2),o3]]=some (.bool (allSame [a,b,c] t0),[[o0,o1,some (.mem [.agg [.int .i64 t0.kind,.str t0.name]] 1 false 2),o3]]):=equal_own f [a,b,c] t0 (by simp) o0 o1 o3
def nineL:List Str:=[[109,105,110],[109,97,120],[99,108,97,109,112],[97,98,115],[102,108,111,111,114],[102,114,97,99,116],[115,113,114,116],[100,111,116],[109,105,120]]
def cntF (nm:Str):Nat:=if nm=[99,108,97,109,112]∨nm=[109,105,120] then 3 else if nm=[109,105,110]∨nm=[109,97,120]∨nm=[100,111,116] then 2 else 1
def builtinF (nm:Str) (ts:List Ty):Ty × Int :=
  if ts.length≠cntF nm then (tz,11)
  else if nm=[109,105,110]∨nm=[109,97,120]∨nm=[99,108,97,109,112]∨nm=[97,98,115] then typedF (allSame ts (ts.getD 0 tz)&&isNm (ts.getD 0 tz).kind) (ts.getD 0 tz)
  else if nm=[100,111,116] then typedF (allSame ts (ts.getD 0 tz)&&isVc (ts.getD 0 tz).kind) ⟨1,[]⟩
  else if nm=[109,105,120] then typedF (allSame (ts.take 2) (ts.getD 0 tz)&&(decide (ts.getD 2 tz=⟨1,[]⟩)&&(decide (ts.getD 0 tz=⟨1,[]⟩)||isVc (ts.getD 0 tz).kind))) (ts.getD 0 tz)
  else typedF (decide (ts.getD 0 tz=⟨1,[]⟩)) ⟨1,[]⟩
theorem tys2 {a b:Ty}:tys [a,b]=[.agg [.int .i64 a.kind,.str a.name],.agg [.int .i64 b.kind,.str b.name]]:=rfl
theorem tys3 {a b c:Ty}:tys [a,b,c]=[.agg [.int .i64 a.kind,.str a.name],.agg [.int .i64 b.kind,.str b.name],.agg [.int .i64 c.kind,.str c.name]]:=rfl
theorem typed_okd (b:Bool) (k:Int) (n:Str) (h:Heap):doCall E (callR E) 125 [.bool b,.agg [.int .i64 k,.str n]] h=some (encR (typedF b ⟨k,n⟩),h):=typed_ok b ⟨k,n⟩ h
theorem len1 {ts:List Ty} (h:ts.length=1):∃ a,ts=[a]:=List.length_eq_one_iff.1 h
theorem len2 {ts:List Ty} (h:ts.length=2):∃ a b,ts=[a,b]:=by
  match ts,h with
  | [a,b],_=>exact ⟨a,b,rfl⟩
theorem len3 {ts:List Ty} (h:ts.length=3):∃ a b c,ts=[a,b,c]:=by
  match ts,h with
  | [a,b,c],_=>exact ⟨a,b,c,rfl⟩
set_option maxHeartbeats 8000000 in
theorem bltin_ok (f:Fl) (ts:List Ty) (hb:ts.length≤1048576) (nm:Str) (hn:nm∈nineL) (h:Heap):doCall E (callR E) 132 [.str nm,.vs f (tys ts)] h=some (encR (builtinF nm ts),h):=by
  refine Zg (pf:=p132) rfl rfl rfl rfl (by simp [PV.lowL,PV.low,Zr]) (by simp [PV.low,PV.lowL,Zr]) ?_ h
  show kQ E _ (endQ [⟨4,some (some 2)⟩,⟨5,none⟩] _) .norm { lvl:=0,tmps:=mk 87 [(0,.str nm),(1,.vs f (tys ts))],heap:=[[none,none,none,none]],defers:=[] }
  have pu28:pureB E 28=true:=rfl
  have pu84:pureB E 84=true:=rfl
  have pu126:pureB E 126=true:=rfl
  with_reducible refine K_seq' ?_
  repeat' first|(with_reducible first|refine cS ?_ ?_|refine oS ?_ ?_|refine dS ?_ ?_)<;>intro _|((with_reducible refine kk ?_ ?_);·rfl)|simp -implicitDefEqProofs(disch:=first|omega|assumption)only[push_cast,simprocAttr,Zd,Zc,Ze]|(with_reducible first|refine cB ?_ ?_|refine oB ?_ ?_|refine dB ?_ ?_)<;>intro _
  with_reducible refine K_seq' ?_
  repeat' first|(with_reducible first|refine cS ?_ ?_|refine oS ?_ ?_|refine dS ?_ ?_)<;>intro _|((with_reducible refine kk ?_ ?_);·rfl)|simp -implicitDefEqProofs(disch:=first|omega|assumption)only[push_cast,simprocAttr,Zd,Zc,Ze,findE,setE,keySame,keyIs,l_beq,X3,X2,X1,UInt8.reduceToNat,Option.isSome_some,Option.isSome_none,Option.getD_some,Option.getD_none]|(with_reducible first|refine cB ?_ ?_|refine oB ?_ ?_|refine dB ?_ ?_)<;>intro _
  simp only [nineL,List.mem_cons,List.not_mem_nil,or_false] at hn
  by_cases hl:ts.length=cntF nm
  · rcases hn with hn|hn|hn|hn|hn|hn|hn|hn|hn
    · subst hn
      obtain ⟨a,b,rfl⟩:=len2 hl
      cases hs:allSame [a,b] a
      all_goals
        repeat' first|(with_reducible first|refine cS ?_ ?_|refine oS ?_ ?_|refine dS ?_ ?_)<;>intro _|((with_reducible refine kk ?_ ?_);·rfl)|simp -implicitDefEqProofs(disch:=first|omega|assumption)only[push_cast,simprocAttr,Zb,hs,Xv,Y9,tys1,tys2,tys3,Z8,findE,setE,keySame,keyIs,l_beq,X3,X2,X1,UInt8.reduceToNat,Option.isSome_some,Option.isSome_none,Option.getD_some,Option.getD_none,Ye,Xh,Xg,Xf,num_ok,Y7,Xd,boundsE,bound,binS,stabG,stabS,Z1,Yb,Z0,Zt,Zy,Z9,Ya,Zz,Zu,Zp]|(with_reducible first|refine cB ?_ ?_|refine oB ?_ ?_|refine dB ?_ ?_)<;>intro _|with_reducible first|refine Z2 ?_ ?_|refine Z3 (by decide) ?_|refine Z4 (by decide) ?_ ?_|exact Z5|refine Zx ?_|refine Zq ?_
      all_goals first|(simp [builtinF,cntF,hs,typedF, *];done)|(subst_vars;simp_all [builtinF,cntF,typedF,isVc];done)
    · subst hn
      obtain ⟨a,b,rfl⟩:=len2 hl
      cases hs:allSame [a,b] a
      all_goals
        repeat' first|(with_reducible first|refine cS ?_ ?_|refine oS ?_ ?_|refine dS ?_ ?_)<;>intro _|((with_reducible refine kk ?_ ?_);·rfl)|simp -implicitDefEqProofs(disch:=first|omega|assumption)only[push_cast,simprocAttr,Zb,hs,Xv,Y9,tys1,tys2,tys3,Z8,findE,setE,keySame,keyIs,l_beq,X3,X2,X1,UInt8.reduceToNat,Option.isSome_some,Option.isSome_none,Option.getD_some,Option.getD_none,Ye,Xh,Xg,Xf,num_ok,Y7,Xd,boundsE,bound,binS,stabG,stabS,Z1,Yb,Z0,Zt,Zy,Z9,Ya,Zz,Zu,Zp]|(with_reducible first|refine cB ?_ ?_|refine oB ?_ ?_|refine dB ?_ ?_)<;>intro _|with_reducible first|refine Z2 ?_ ?_|refine Z3 (by decide) ?_|refine Z4 (by decide) ?_ ?_|exact Z5|refine Zx ?_|refine Zq ?_
      all_goals first|(simp [builtinF,cntF,hs,typedF, *];done)|(subst_vars;simp_all [builtinF,cntF,typedF,isVc];done)
    · subst hn
      obtain ⟨a,b,c,rfl⟩:=len3 hl
      cases hs:allSame [a,b,c] a
      all_goals
        repeat' first|(with_reducible first|refine cS ?_ ?_|refine oS ?_ ?_|refine dS ?_ ?_)<;>intro _|((with_reducible refine kk ?_ ?_);·rfl)|simp -implicitDefEqProofs(disch:=first|omega|assumption)only[push_cast,simprocAttr,Zb,hs,Xv,Y9,tys1,tys2,tys3,Z8,findE,setE,keySame,keyIs,l_beq,X3,X2,X1,UInt8.reduceToNat,Option.isSome_some,Option.isSome_none,Option.getD_some,Option.getD_none,Ye,Xh,Xg,Xf,num_ok,Y7,Xd,boundsE,bound,binS,stabG,stabS,Z1,Yb,Z0,Zt,Zy,Z9,Ya,Zz,Zu,Zp]|(with_reducible first|refine cB ?_ ?_|refine oB ?_ ?_|refine dB ?_ ?_)<;>intro _|with_reducible first|refine Z2 ?_ ?_|refine Z3 (by decide) ?_|refine Z4 (by decide) ?_ ?_|exact Z5|refine Zx ?_|refine Zq ?_
      all_goals first|(simp [builtinF,cntF,hs,typedF, *];done)|(subst_vars;simp_all [builtinF,cntF,typedF,isVc];done)
    · subst hn
      obtain ⟨a,rfl⟩:=len1 hl
      cases hs:allSame [a] a
      all_goals
        repeat' first|(with_reducible first|refine cS ?_ ?_|refine oS ?_ ?_|refine dS ?_ ?_)<;>intro _|((with_reducible refine kk ?_ ?_);·rfl)|simp -implicitDefEqProofs(disch:=first|omega|assumption)only[push_cast,simprocAttr,Zb,hs,Xv,Y9,tys1,tys2,tys3,Z8,findE,setE,keySame,keyIs,l_beq,X3,X2,X1,UInt8.reduceToNat,Option.isSome_some,Option.isSome_none,Option.getD_some,Option.getD_none,Ye,Xh,Xg,Xf,num_ok,Y7,Xd,boundsE,bound,binS,stabG,stabS,Z1,Yb,Z0,Zt,Zy,Z9,Ya,Zz,Zu,Zp]|(with_reducible first|refine cB ?_ ?_|refine oB ?_ ?_|refine dB ?_ ?_)<;>intro _|with_reducible first|refine Z2 ?_ ?_|refine Z3 (by decide) ?_|refine Z4 (by decide) ?_ ?_|exact Z5|refine Zx ?_|refine Zq ?_
      all_goals first|(simp [builtinF,cntF,hs,typedF, *];done)|(subst_vars;simp_all [builtinF,cntF,typedF,isVc];done)
    · subst hn
      obtain ⟨a,rfl⟩:=len1 hl
      cases hs:allSame [a] a
      all_goals
        repeat' first|(with_reducible first|refine cS ?_ ?_|refine oS ?_ ?_|refine dS ?_ ?_)<;>intro _|((with_reducible refine kk ?_ ?_);·rfl)|simp -implicitDefEqProofs(disch:=first|omega|assumption)only[push_cast,simprocAttr,Zb,hs,Xv,Y9,tys1,tys2,tys3,Z8,findE,setE,keySame,keyIs,l_beq,X3,X2,X1,UInt8.reduceToNat,Option.isSome_some,Option.isSome_none,Option.getD_some,Option.getD_none,Ye,Xh,Xg,Xf,num_ok,Y7,Xd,boundsE,bound,binS,stabG,stabS,Z1,Yb,Z0,Zt,Zy,Z9,Ya,Zz,Zu,Zp]|(with_reducible first|refine cB ?_ ?_|refine oB ?_ ?_|refine dB ?_ ?_)<;>intro _|with_reducible first|refine Z2 ?_ ?_|refine Z3 (by decide) ?_|refine Z4 (by decide) ?_ ?_|exact Z5|refine Zx ?_|refine Zq ?_
      all_goals first|(simp [builtinF,cntF,hs,typedF, *];done)|(subst_vars;simp_all [builtinF,cntF,typedF,isVc];done)
    · subst hn
      obtain ⟨a,rfl⟩:=len1 hl
      cases hs:allSame [a] a
      all_goals
        repeat' first|(with_reducible first|refine cS ?_ ?_|refine oS ?_ ?_|refine dS ?_ ?_)<;>intro _|((with_reducible refine kk ?_ ?_);·rfl)|simp -implicitDefEqProofs(disch:=first|omega|assumption)only[push_cast,simprocAttr,Zb,hs,Xv,Y9,tys1,tys2,tys3,Z8,findE,setE,keySame,keyIs,l_beq,X3,X2,X1,UInt8.reduceToNat,Option.isSome_some,Option.isSome_none,Option.getD_some,Option.getD_none,Ye,Xh,Xg,Xf,num_ok,Y7,Xd,boundsE,bound,binS,stabG,stabS,Z1,Yb,Z0,Zt,Zy,Z9,Ya,Zz,Zu,Zp]|(with_reducible first|refine cB ?_ ?_|refine oB ?_ ?_|refine dB ?_ ?_)<;>intro _|with_reducible first|refine Z2 ?_ ?_|refine Z3 (by decide) ?_|refine Z4 (by decide) ?_ ?_|exact Z5|refine Zx ?_|refine Zq ?_
      all_goals first|(simp [builtinF,cntF,hs,typedF, *];done)|(subst_vars;simp_all [builtinF,cntF,typedF,isVc];done)
    · subst hn
      obtain ⟨a,rfl⟩:=len1 hl
      cases hs:allSame [a] a
      all_goals
        repeat' first|(with_reducible first|refine cS ?_ ?_|refine oS ?_ ?_|refine dS ?_ ?_)<;>intro _|((with_reducible refine kk ?_ ?_);·rfl)|simp -implicitDefEqProofs(disch:=first|omega|assumption)only[push_cast,simprocAttr,Zb,hs,Xv,Y9,tys1,tys2,tys3,Z8,findE,setE,keySame,keyIs,l_beq,X3,X2,X1,UInt8.reduceToNat,Option.isSome_some,Option.isSome_none,Option.getD_some,Option.getD_none,Ye,Xh,Xg,Xf,num_ok,Y7,Xd,boundsE,bound,binS,stabG,stabS,Z1,Yb,Z0,Zt,Zy,Z9,Ya,Zz,Zu,Zp]|(with_reducible first|refine cB ?_ ?_|refine oB ?_ ?_|refine dB ?_ ?_)<;>intro _|with_reducible first|refine Z2 ?_ ?_|refine Z3 (by decide) ?_|refine Z4 (by decide) ?_ ?_|exact Z5|refine Zx ?_|refine Zq ?_
      all_goals first|(simp [builtinF,cntF,hs,typedF, *];done)|(subst_vars;simp_all [builtinF,cntF,typedF,isVc];done)
    · subst hn
      obtain ⟨a,b,rfl⟩:=len2 hl
      cases hs:allSame [a,b] a
      all_goals
        repeat' first|(with_reducible first|refine cS ?_ ?_|refine oS ?_ ?_|refine dS ?_ ?_)<;>intro _|((with_reducible refine kk ?_ ?_);·rfl)|simp -implicitDefEqProofs(disch:=first|omega|assumption)only[push_cast,simprocAttr,Zb,hs,Xv,Y9,tys1,tys2,tys3,Z8,findE,setE,keySame,keyIs,l_beq,X3,X2,X1,UInt8.reduceToNat,Option.isSome_some,Option.isSome_none,Option.getD_some,Option.getD_none,Ye,Xh,Xg,Xf,num_ok,Y7,Xd,boundsE,bound,binS,stabG,stabS,Z1,Yb,Z0,Zt,Zy,Z9,Ya,Zz,Zu,Zp]|(with_reducible first|refine cB ?_ ?_|refine oB ?_ ?_|refine dB ?_ ?_)<;>intro _|with_reducible first|refine Z2 ?_ ?_|refine Z3 (by decide) ?_|refine Z4 (by decide) ?_ ?_|exact Z5|refine Zx ?_|refine Zq ?_
      all_goals first|(simp [builtinF,cntF,hs,typedF, *];done)|(subst_vars;simp_all [builtinF,cntF,typedF,isVc];done)
    · subst hn
      obtain ⟨a,b,c,rfl⟩:=len3 hl
      cases hs:allSame [a,b] a
      all_goals
        repeat' first|(with_reducible first|refine cS ?_ ?_|refine oS ?_ ?_|refine dS ?_ ?_)<;>intro _|((with_reducible refine kk ?_ ?_);·rfl)|simp -implicitDefEqProofs(disch:=first|omega|assumption)only[push_cast,simprocAttr,Zb,hs,Xv,Y9,tys1,tys2,tys3,Z8,findE,setE,keySame,keyIs,l_beq,X3,X2,X1,UInt8.reduceToNat,Option.isSome_some,Option.isSome_none,Option.getD_some,Option.getD_none,Ye,Xh,Xg,Xf,num_ok,Y7,Xd,boundsE,bound,binS,stabG,stabS,Z1,Yb,Z0,Zt,Zy,Z9,Ya,Zz,Zu,Zp]|(with_reducible first|refine cB ?_ ?_|refine oB ?_ ?_|refine dB ?_ ?_)<;>intro _|with_reducible first|refine Z2 ?_ ?_|refine Z3 (by decide) ?_|refine Z4 (by decide) ?_ ?_|exact Z5|refine Zx ?_|refine Zq ?_
      all_goals first|(simp [builtinF,cntF,hs,typedF, *];done)|(subst_vars;simp_all [builtinF,cntF,typedF,isVc];done)
  · rcases hn with hn|hn|hn|hn|hn|hn|hn|hn|hn
    all_goals subst hn
    all_goals simp [cntF] at hl
    all_goals
      repeat' first|(with_reducible first|refine cS ?_ ?_|refine oS ?_ ?_|refine dS ?_ ?_)<;>intro _|((with_reducible refine kk ?_ ?_);·rfl)|simp -implicitDefEqProofs(disch:=first|omega|assumption)only[push_cast,simprocAttr,Zd,Zc,Ze,Zb,Z8,hl,findE,setE,keySame,keyIs,l_beq,X3,X2,X1,UInt8.reduceToNat,Option.isSome_some,Option.isSome_none,Option.getD_some,Option.getD_none]|(with_reducible first|refine cB ?_ ?_|refine oB ?_ ?_|refine dB ?_ ?_)<;>intro _
    all_goals simp [builtinF,cntF,hl]
end
section
theorem tyl_loop {fa fb:Fl} (a b:List Ty) (ha:a.length≤1048576) (hab:a.length=b.length) {ks:List KI} {Q:PEx→Fr→Prop}
    (hr:∀ t,a≠b→look t 4=.bool false→kQ E ks Q .ret { lvl:=0,tmps:=mk 26 t,heap:=[[]],defers:=[] })
    (hn:∀ t,a=b→kQ E ks Q .norm { lvl:=0,tmps:=mk 26 t,heap:=[[]],defers:=[] }) :
    ∀ (ra pa rb pb:List Ty) (t:List (Nat × PV)),a=pa++ra→b=pb++rb→pa=pb →
      look t 0=.vs fa (tys a)→look t 1=.vs fb (tys b)→look t 12=.int .i64 a.length→look t 13=.int .i64 pa.length →
      kQ E (.code p158l0::.blk 0::ks) Q .norm { lvl:=0,tmps:=mk 26 t,heap:=[[]],defers:=[] }:=by
  intro ra
  induction ra with
  | nil =>
    intro pa rb pb t h1 h2 hp k0 k1 k12 k13
    have e:a.length=pa.length:=by rw [h1];simp
    have hrb:rb=[]:=by
      have:=congrArg List.length h2
      simp at this
      subst hp
      exact List.eq_nil_of_length_eq_zero (by omega)
    refine loopK' (c:=p158l0) rfl ?_
    repeat' first|(with_reducible first|refine cS ?_ ?_|refine oS ?_ ?_|refine dS ?_ ?_)<;>intro _|((with_reducible refine kk ?_ ?_);·rfl)|simp -implicitDefEqProofs(disch:=first|omega|assumption)only[push_cast,simprocAttr,Zd,Zc,Ze,Zb,k0,k1,k12,k13,e]|(with_reducible first|refine cB ?_ ?_|refine oB ?_ ?_|refine dB ?_ ?_)<;>intro _
    exact hn _ (by rw [h1,h2,hp,hrb])
  | cons x r ih =>
    intro pa rb pb t h1 h2 hp k0 k1 k12 k13
    subst hp
    have e:a.length=pa.length+r.length+1:=by rw [h1];simp;omega
    cases rb with
    | nil=>exfalso;have:=congrArg List.length h2;simp at this;omega
    | cons y s =>
      have g1:(tys a)[pa.length]?=some (.agg [.int .i64 x.kind,.str x.name]):=by rw [h1];exact Yd _ _ _ _
      have g2:(tys b)[pa.length]?=some (.agg [.int .i64 y.kind,.str y.name]):=by rw [h2];exact Yd _ _ _ _
      refine loopK' (c:=p158l0) rfl ?_
      by_cases hxy:x=y
      · have pt:=eq_true hxy
        repeat' first|(with_reducible first|refine cS ?_ ?_|refine oS ?_ ?_|refine dS ?_ ?_)<;>intro _|((with_reducible refine kk ?_ ?_);·rfl)|simp -implicitDefEqProofs(disch:=first|omega|assumption)only[push_cast,simprocAttr,Zb,Xv,Y9,k0,k1,k12,k13,g1,g2,pt]|(with_reducible first|refine cB ?_ ?_|refine oB ?_ ?_|refine dB ?_ ?_)<;>intro _
        refine ih (pa++[x]) s (pa++[y]) _ (by simp [h1]) (by simp [h2]) (by rw [hxy]) (by simp [look,Za,k0]) (by simp [look,Za,k1]) (by simp [look,Za,k12]) (by simp [look,Za])
      · have pt:=eq_false hxy
        repeat' first|(with_reducible first|refine cS ?_ ?_|refine oS ?_ ?_|refine dS ?_ ?_)<;>intro _|((with_reducible refine kk ?_ ?_);·rfl)|simp -implicitDefEqProofs(disch:=first|omega|assumption)only[push_cast,simprocAttr,Zb,Xv,Y9,k0,k1,k12,k13,g1,g2,pt]|(with_reducible first|refine cB ?_ ?_|refine oB ?_ ?_|refine dB ?_ ?_)<;>intro _
        exact hr _ (by rw [h1,h2];simpa using fun h=>absurd h hxy) (by simp [look])
theorem tyl_ok (fa fb:Fl) (a b:List Ty) (ha:a.length≤1048576) (hab:a.length=b.length) (h:Heap):doCall E (callR E) 158 [.vs fa (tys a),.vs fb (tys b)] h=some (.bool (decide (a=b)),h):=by
  refine Zg (pf:=p158) rfl rfl rfl rfl (by simp [PV.lowL,PV.low,Zr]) (by simp [PV.low,PV.lowL,Zr]) ?_ h
  show kQ E _ (endQ [⟨4,none⟩] _) .norm { lvl:=0,tmps:=mk 26 [(0,.vs fa (tys a)),(1,.vs fb (tys b))],heap:=[[]],defers:=[] }
  repeat' first|(with_reducible first|refine cS ?_ ?_|refine oS ?_ ?_|refine dS ?_ ?_)<;>intro _|((with_reducible refine kk ?_ ?_);·rfl)|simp -implicitDefEqProofs(disch:=first|omega|assumption)only[push_cast,simprocAttr,Zd,Zc,Ze,Zb,Z8]|(with_reducible first|refine cB ?_ ?_|refine oB ?_ ?_|refine dB ?_ ?_)<;>intro _
  refine tyl_loop (fa:=fa) (fb:=fb) a b ha hab ?_ ?_ a [] b [] _ rfl rfl rfl (by simp [look,Za]) (by simp [look,Za]) (by simp [look,Za]) (by simp [look,Za])
  · intro t hne h4
    repeat' first|(with_reducible first|refine cS ?_ ?_|refine oS ?_ ?_|refine dS ?_ ?_)<;>intro _|((with_reducible refine kk ?_ ?_);·rfl)|simp -implicitDefEqProofs(disch:=first|omega|assumption)only[push_cast,simprocAttr,Zd,Zc,Ze,Zb,h4]|(with_reducible first|refine cB ?_ ?_|refine oB ?_ ?_|refine dB ?_ ?_)<;>intro _
    all_goals simp [hne]
  · intro t he
    repeat' first|(with_reducible first|refine cS ?_ ?_|refine oS ?_ ?_|refine dS ?_ ?_)<;>intro _|((with_reducible refine kk ?_ ?_);·rfl)|simp -implicitDefEqProofs(disch:=first|omega|assumption)only[push_cast,simprocAttr,Zd,Zc,Ze,Zb]|(with_reducible first|refine cB ?_ ?_|refine oB ?_ ?_|refine dB ?_ ?_)<;>intro _
    all_goals simp [he]
def valF (rest want:List Ty) (res:Ty):Ty × Int:=if rest.length≠want.length then (tz,11) else typedF (decide (rest=want)) res
theorem val_ok (fr fw:Fl) (rest want:List Ty) (res:Ty) (hb:rest.length≤1048576) (h:Heap):doCall E (callR E) 157 [.agg [.int .i64 res.kind,.str res.name],.vs fw (tys want),.ip [.vs fr (tys rest)]] h=some (encR (valF rest want res),h):=by
  refine Zg (pf:=p157) rfl rfl rfl rfl (by simp [PV.lowL,PV.low,Zr]) (by simp [PV.low,PV.lowL,Zr]) ?_ h
  show kQ E _ (endQ [⟨5,some (some 2)⟩,⟨6,none⟩] _) .norm { lvl:=0,tmps:=mk 20 [(0,.agg [.int .i64 res.kind,.str res.name]),(1,.vs fw (tys want)),(2,.ip [.vs fr (tys rest)])],heap:=[[none]],defers:=[] }
  have pu158:pureB E 158=true:=rfl
  by_cases hl:rest.length=want.length
  · repeat' first|(with_reducible first|refine cS ?_ ?_|refine oS ?_ ?_|refine dS ?_ ?_)<;>intro _|((with_reducible refine kk ?_ ?_);·rfl)|simp -implicitDefEqProofs(disch:=first|omega|assumption)only[push_cast,simprocAttr,Zd,Zc,Ze,Zb,Z8,hl,tyl_ok,hb,Zr,typed_okd]|(with_reducible first|refine cB ?_ ?_|refine oB ?_ ?_|refine dB ?_ ?_)<;>intro _
    all_goals simp [valF,hl]
  · repeat' first|(with_reducible first|refine cS ?_ ?_|refine oS ?_ ?_|refine dS ?_ ?_)<;>intro _|((with_reducible refine kk ?_ ?_);·rfl)|simp -implicitDefEqProofs(disch:=first|omega|assumption)only[push_cast,simprocAttr,Zd,Zc,Ze,Zb,Z8,hl]|(with_reducible first|refine cB ?_ ?_|refine oB ?_ ?_|refine dB ?_ ?_)<;>intro _
    all_goals simp [valF,hl]
theorem val_own (fr fw:Fl) (rest want:List Ty) (res:Ty) (hb:rest.length≤1048576) (o0 o1 o3 o4:Option Ob):doCall E (callR E) 157 [.agg [.int .i64 res.kind,.str res.name],.vs fw (tys want),.ptr (0,2) 1 0 0] [[o0,o1,some (.mem [.vs fr (tys rest)] 1 false 1),o3,o4]]=some (encR (valF rest want res),[[o0,o1,some (.mem [.vs fr (tys rest)] 1 false 1),o3,o4]]):=by
  refine call_snap (pf:=p157) (args':=[.agg [.int .i64 res.kind,.str res.name],.vs fw (tys want),.ip [.vs fr (tys rest)]]) rfl rfl (by simp [PV.lowL,PV.low,Zr];rfl) ?_ (by simp [PV.lowL,PV.low,Zr]) (val_ok fr fw rest want res hb _) rfl
  simp [mapO,snap,PV.low,PV.lowL,Zr,hget,PV.cells]
def resourceF (m:Mod) (sc:List Fld) (nm:Str) (as:List Ex) (ts:List Ty):Ty × Int :=
  match as with
  | []=>(tz,11)
  | a::_=>if a.kind≠4∨a.args.length>0 then (tz,13)
    else if nm=[115,97,109,112,108,101]∨nm=[102,101,116,99,104] then
      (if sidxF m.ts a.name<0 then (tz,13) else if nm=[115,97,109,112,108,101] then valF (ts.drop 1) [⟨5,[]⟩,⟨1,[]⟩] ⟨7,[]⟩ else valF (ts.drop 1) [⟨3,[]⟩,⟨3,[]⟩,⟨3,[]⟩] ⟨7,[]⟩)
    else if nm=[108,111,97,100] then (if sidxF m.bs a.name<0 then (tz,13) else valF (ts.drop 1) [⟨3,[]⟩] ⟨3,[]⟩)
    else if fdF m.ins a.name<0∨0≤fdF sc a.name then (tz,13)
    else if ts.length>1 then (tz,11)
    else if tyAt m.ins (fdF m.ins a.name)≠⟨1,[]⟩∧isVc (tyAt m.ins (fdF m.ins a.name)).kind=false then (tz,12)
    else if m.stage≠3 then (tz,10) else (tyAt m.ins (fdF m.ins a.name),0)
theorem val1 (fr fw:Fl) (rest:List Ty) (hb:rest.length≤1048576) (o0 o1 o3 o4:Option Ob):doCall E (callR E) 157 [.agg [.int .i64 3,.str []],.vs fw [.agg [.int .i64 3,.str []]],.ptr (0,2) 1 0 0] [[o0,o1,some (.mem [.vs fr (tys rest)] 1 false 1),o3,o4]]=some (encR (valF rest [⟨3,[]⟩] ⟨3,[]⟩),[[o0,o1,some (.mem [.vs fr (tys rest)] 1 false 1),o3,o4]]):=val_own fr fw rest [⟨3,[]⟩] ⟨3,[]⟩ hb o0 o1 o3 o4
theorem val2 (fr fw:Fl) (rest:List Ty) (hb:rest.length≤1048576) (o0 o1 o3 o4:Option Ob):doCall E (callR E) 157 [.agg [.int .i64 7,.str []],.vs fw [.agg [.int .i64 5,.str []],.agg [.int .i64 1,.str []]],.ptr (0,2) 1 0 0] [[o0,o1,some (.mem [.vs fr (tys rest)] 1 false 1),o3,o4]]=some (encR (valF rest [⟨5,[]⟩,⟨1,[]⟩] ⟨7,[]⟩),[[o0,o1,some (.mem [.vs fr (tys rest)] 1 false 1),o3,o4]]):=val_own fr fw rest [⟨5,[]⟩,⟨1,[]⟩] ⟨7,[]⟩ hb o0 o1 o3 o4
theorem val3 (fr fw:Fl) (rest:List Ty) (hb:rest.length≤1048576) (o0 o1 o3 o4:Option Ob):doCall E (callR E) 157 [.agg [.int .i64 7,.str []],.vs fw [.agg [.int .i64 3,.str []],.agg [.int .i64 3,.str []],.agg [.int .i64 3,.str []]],.ptr (0,2) 1 0 0] [[o0,o1,some (.mem [.vs fr (tys rest)] 1 false 1),o3,o4]]=some (encR (valF rest [⟨3,[]⟩,⟨3,[]⟩,⟨3,[]⟩] ⟨7,[]⟩),[[o0,o1,some (.mem [.vs fr (tys rest)] 1 false 1),o3,o4]]):=val_own fr fw rest [⟨3,[]⟩,⟨3,[]⟩,⟨3,[]⟩] ⟨7,[]⟩ hb o0 o1 o3 o4
end
section
theorem exs1 {a:Ex} {r:List Ex}:exs (a::r)=.agg a.c::exs r:=by simp [exs]
theorem take5 {a:Ex}:a.c.take 5=a.c:=List.take_of_length_le (by rw [a.c_len];exact Nat.le_refl _)
theorem tys_drop {l:List Ty} {n:Nat}:(tys l).drop n=tys (l.drop n):=by simp [tys,List.map_drop]
theorem tys_take' {l:List Ty} {n:Nat}:(tys l).take n=tys (l.take n):=by simp [tys,List.map_take]
theorem resF_dd {m:Mod} {sc:List Fld} {nm nm':Str} (hn:nm=[100,100,120]∨nm=[100,100,121]) {k' o' x':Int} {fl':Fl} {as' r:List Ex} (hk:k'=4) (ha:as'.length=0) {ts:List Ty}:resourceF m sc nm (.mk k' o' nm' x' fl' as'::r) ts =
    (if fdF m.ins nm'<0∨0≤fdF sc nm' then (tz,13) else if ts.length>1 then (tz,11) else if tyAt m.ins (fdF m.ins nm')≠⟨1,[]⟩∧isVc (tyAt m.ins (fdF m.ins nm')).kind=false then (tz,12) else if m.stage≠3 then (tz,10) else (tyAt m.ins (fdF m.ins nm'),0)):=by
  rcases hn with hn|hn<;>simp [resourceF,Ex.kind,Ex.name,Ex.args,hk,ha,hn]
set_option maxHeartbeats 4000000 in
theorem res_dd (m:Mod) (hm:m.Ok) (fs:Fl) (sc:List Fld) (hsc:sc.length≤1048576) (k o x:Int) (nm:Str) (hn:nm=[100,100,120]∨nm=[100,100,121]) (fl:Fl) (k' o':Int) (nm':Str) (x':Int) (fl':Fl) (as' r:List Ex) (ft:Fl) (ts:List Ty) (hz:ts.length=r.length+1) (hb:ts.length≤1048576) (hq:k'=4∧as'.length=0) (h:Heap) :
    doCall E (callR E) 130 [.agg m.c,.vs fs (flds sc),.agg [.int .i64 k,.int .i64 o,.str nm,.int .i64 x,.vs fl (exs (.mk k' o' nm' x' fl' as'::r))],.vs ft (tys ts)] h=some (encR (resourceF m sc nm (.mk k' o' nm' x' fl' as'::r) ts),h):=by
  have h1:=m.hm
  have g1:=hm.ts
  have g2:=hm.bs
  have g3:=hm.ins
  refine Zg (pf:=p130) rfl rfl rfl rfl (by simp [PV.lowL,PV.low,Zj,Zi,Zk,Zl,h1,Zo,Zr]) (by simp [PV.low,PV.lowL,Zj,Zi,Zk,Zl,h1,Zo,Zr]) ?_ h
  show kQ E _ (endQ [⟨8,some (some 2)⟩,⟨9,none⟩] _) .norm { lvl:=0,tmps:=mk 128 [(0,.agg m.c),(1,.vs fs (flds sc)),(2,.agg [.int .i64 k,.int .i64 o,.str nm,.int .i64 x,.vs fl (exs (.mk k' o' nm' x' fl' as'::r))]),(3,.vs ft (tys ts))],heap:=[[none,none,none,none,none]],defers:=[] }
  have pu84:pureB E 84=true:=rfl
  obtain ⟨hk4,hq0⟩:=hq
  have hdl:(ts.drop 1).length=ts.length - 1:=by simp
  have hdb:(ts.drop 1).length≤1048576:=by omega
  have htk:ts.take (r.length+1)=ts:=by rw [← hz];exact List.take_length
  have p1:=fdF_bd m.ins nm'
  have p2:=fdF_bd sc nm'
  have hd1:headSz 2 (tys ts)=true:=tys_head
  have e:=resF_dd (m:=m) (sc:=sc) (nm:=nm) (nm':=nm') (o':=o') (x':=x') (fl':=fl') (r:=r) (ts:=ts) hn hk4 hq0
  rw [e]
  clear e
  rcases hn with hn|hn
  all_goals subst hn
  all_goals by_cases hi:fdF m.ins nm'<0
  iterate 2
    · repeat' first|(with_reducible first|refine cS ?_ ?_|refine oS ?_ ?_|refine dS ?_ ?_)<;>intro _|((with_reducible refine kk ?_ ?_);·rfl)|simp -implicitDefEqProofs(disch:=first|omega|assumption)only[push_cast,simprocAttr,Zb,Xv,Y9,l_beq,X3,X2,X1,UInt8.reduceToNat,h1,Zr,Z8,hz,exs1,Ex.c,g1,g2,g3,hsc,shas_ok,Ye,hk4,hq0,binS,boundsE,bound,tys_drop,tys_take',htk,hd1,Option.isSome_none,Bool.false_eq_true,val1,val2,val3,hdb,Xu,Y7,stabG,stabS,Z1,Yb,Z0,Zt,Zy,Z9,Ya,Zz,Zu,Zp]|(with_reducible first|refine cB ?_ ?_|refine oB ?_ ?_|refine dB ?_ ?_)<;>intro _|with_reducible first|refine Z2 ?_ ?_|refine Z3 (by decide) ?_|refine Z4 (by decide) ?_ ?_|exact Z5|refine Zx ?_|refine Zq ?_
      all_goals first
        | (rw [if_pos (by omega)];done)
          | (rw [if_neg (by omega)];simp [hty,hz, *];done)
        | trace_state
    · obtain ⟨fd,hg,_,hty⟩:=fd_get (l:=m.ins) (nm:=nm') (by omega)
      by_cases hj:0≤fdF sc nm'
      · repeat' first|(with_reducible first|refine cS ?_ ?_|refine oS ?_ ?_|refine dS ?_ ?_)<;>intro _|((with_reducible refine kk ?_ ?_);·rfl)|simp -implicitDefEqProofs(disch:=first|omega|assumption)only[push_cast,simprocAttr,Zb,Xv,Y9,l_beq,X3,X2,X1,UInt8.reduceToNat,h1,Zr,Z8,hz,exs1,Ex.c,g1,g2,g3,hsc,shas_ok,Ye,hk4,hq0,binS,boundsE,bound,tys_drop,tys_take',htk,hd1,Option.isSome_none,Bool.false_eq_true,val1,val2,val3,hdb,Xu,Y7,stabG,stabS,Z1,Yb,Z0,Zt,Zy,Z9,Ya,Zz,Zu,Zp]|(with_reducible first|refine cB ?_ ?_|refine oB ?_ ?_|refine dB ?_ ?_)<;>intro _|with_reducible first|refine Z2 ?_ ?_|refine Z3 (by decide) ?_|refine Z4 (by decide) ?_ ?_|exact Z5|refine Zx ?_|refine Zq ?_
        all_goals first
          | (rw [if_pos (by omega)];done)
          | (rw [if_neg (by omega)];simp [hty,hz, *];done)
          | trace_state
      · have hdr:(List.drop 1 ts).length=r.length:=by omega
        repeat' first|(with_reducible first|refine cS ?_ ?_|refine oS ?_ ?_|refine dS ?_ ?_)<;>intro _|((with_reducible refine kk ?_ ?_);·rfl)|simp -implicitDefEqProofs(disch:=first|omega|assumption)only[push_cast,simprocAttr,Zb,Xv,Y9,l_beq,X3,X2,X1,UInt8.reduceToNat,h1,Zr,Z8,hz,exs1,Ex.c,g1,g2,g3,hsc,shas_ok,Ye,hk4,hq0,binS,boundsE,bound,tys_drop,tys_take',htk,hd1,Option.isSome_none,Bool.false_eq_true,val1,val2,val3,hdb,Xu,Y7,hg,hdr,stabG,stabS,Z1,Yb,Z0,Zt,Zy,Z9,Ya,Zz,Zu,Zp]|(with_reducible first|refine cB ?_ ?_|refine oB ?_ ?_|refine dB ?_ ?_)<;>intro _|with_reducible first|refine Z2 ?_ ?_|refine Z3 (by decide) ?_|refine Z4 (by decide) ?_ ?_|exact Z5|refine Zx ?_|refine Zq ?_
        all_goals first
          | (rw [if_pos (by omega)];done)
          | (rw [if_neg (by omega)];simp [hty,hz, *];done)
          | (rw [hty];simp [*];done)
          | (rw [hty];simp_all;done)
          | trace_state
end
section
set_option maxHeartbeats 4000000 in
theorem res_tx (m:Mod) (hm:m.Ok) (fs:Fl) (sc:List Fld) (hsc:sc.length≤1048576) (k o x:Int) (nm:Str) (hn:nm=[115,97,109,112,108,101]∨nm=[102,101,116,99,104]∨nm=[108,111,97,100]) (fl:Fl) (k' o':Int) (nm':Str) (x':Int) (fl':Fl) (as' r:List Ex) (ft:Fl) (ts:List Ty) (hz:ts.length=r.length+1) (hb:ts.length≤1048576) (hq:k'=4∧as'.length=0) (h:Heap) :
    doCall E (callR E) 130 [.agg m.c,.vs fs (flds sc),.agg [.int .i64 k,.int .i64 o,.str nm,.int .i64 x,.vs fl (exs (.mk k' o' nm' x' fl' as'::r))],.vs ft (tys ts)] h=some (encR (resourceF m sc nm (.mk k' o' nm' x' fl' as'::r) ts),h):=by
  have h1:=m.hm
  have g1:=hm.ts
  have g2:=hm.bs
  have g3:=hm.ins
  refine Zg (pf:=p130) rfl rfl rfl rfl (by simp [PV.lowL,PV.low,Zj,Zi,Zk,Zl,h1,Zo,Zr]) (by simp [PV.low,PV.lowL,Zj,Zi,Zk,Zl,h1,Zo,Zr]) ?_ h
  show kQ E _ (endQ [⟨8,some (some 2)⟩,⟨9,none⟩] _) .norm { lvl:=0,tmps:=mk 128 [(0,.agg m.c),(1,.vs fs (flds sc)),(2,.agg [.int .i64 k,.int .i64 o,.str nm,.int .i64 x,.vs fl (exs (.mk k' o' nm' x' fl' as'::r))]),(3,.vs ft (tys ts))],heap:=[[none,none,none,none,none]],defers:=[] }
  have pu84:pureB E 84=true:=rfl
  obtain ⟨hk4,hq0⟩:=hq
  have hdl:(ts.drop 1).length=ts.length - 1:=by simp
  have hdb:(ts.drop 1).length≤1048576:=by omega
  have htk:ts.take (r.length+1)=ts:=by rw [← hz];exact List.take_length
  have p1:=fdF_bd m.ins nm'
  have p2:=fdF_bd sc nm'
  have hd1:headSz 2 (tys ts)=true:=tys_head
  rcases hn with hn|hn|hn
  all_goals subst hn
  all_goals
    repeat' first|(with_reducible first|refine cS ?_ ?_|refine oS ?_ ?_|refine dS ?_ ?_)<;>intro _|((with_reducible refine kk ?_ ?_);·rfl)|simp -implicitDefEqProofs(disch:=first|omega|assumption)only[push_cast,simprocAttr,Zb,Xv,Y9,l_beq,X3,X2,X1,UInt8.reduceToNat,h1,Zr,Z8,hz,exs1,Ex.c,g1,g2,g3,hsc,shas_ok,Ye,hk4,hq0,binS,boundsE,bound,tys_drop,tys_take',htk,hd1,Option.isSome_none,Bool.false_eq_true,val1,val2,val3,hdb,Xu,Y7,stabG,stabS,Z1,Yb,Z0,Zt,Zy,Z9,Ya,Zz,Zu,Zp]|(with_reducible first|refine cB ?_ ?_|refine oB ?_ ?_|refine dB ?_ ?_)<;>intro _|with_reducible first|refine Z2 ?_ ?_|refine Z3 (by decide) ?_|refine Z4 (by decide) ?_ ?_|exact Z5|refine Zx ?_|refine Zq ?_
  all_goals first
    | (simp [resourceF,Ex.kind,Ex.name,Ex.args,hq0, *];done)
    | (rename_i hh;have hh':=Int.not_le.1 hh;simp [resourceF,Ex.kind,Ex.name,Ex.args,hq0,hk4,hh'];done)
    | (rename_i hh;have hh':=Int.not_lt.2 (Decidable.not_not.1 hh);simp [resourceF,Ex.kind,Ex.name,Ex.args,hq0,hk4,hh'];done)
    | trace_state
set_option maxHeartbeats 4000000 in
theorem resource_ok (m:Mod) (hm:m.Ok) (fs:Fl) (sc:List Fld) (hsc:sc.length≤1048576) (k o x:Int) (nm:Str) (hn:nm∈resNames) (fl:Fl) (as:List Ex) (ft:Fl) (ts:List Ty) (hl:ts.length=as.length) (hb:ts.length≤1048576) (h:Heap) :
    doCall E (callR E) 130 [.agg m.c,.vs fs (flds sc),.agg [.int .i64 k,.int .i64 o,.str nm,.int .i64 x,.vs fl (exs as)],.vs ft (tys ts)] h=some (encR (resourceF m sc nm as ts),h):=by
  by_cases hq:∃ o' nm' x' fl' r,as=.mk 4 o' nm' x' fl' []::r
  · obtain ⟨o',nm',x',fl',r,rfl⟩:=hq
    simp only [resNames,List.mem_cons,List.not_mem_nil,or_false] at hn
    have hz:ts.length=r.length+1:=by simpa using hl
    rcases hn with hn|hn|hn|hn|hn
    · exact res_tx m hm fs sc hsc k o x nm (.inl hn) fl 4 o' nm' x' fl' [] r ft ts hz hb ⟨rfl,rfl⟩ h
    · exact res_tx m hm fs sc hsc k o x nm (.inr (.inl hn)) fl 4 o' nm' x' fl' [] r ft ts hz hb ⟨rfl,rfl⟩ h
    · exact res_tx m hm fs sc hsc k o x nm (.inr (.inr hn)) fl 4 o' nm' x' fl' [] r ft ts hz hb ⟨rfl,rfl⟩ h
    · exact res_dd m hm fs sc hsc k o x nm (.inl hn) fl 4 o' nm' x' fl' [] r ft ts hz hb ⟨rfl,rfl⟩ h
    · exact res_dd m hm fs sc hsc k o x nm (.inr hn) fl 4 o' nm' x' fl' [] r ft ts hz hb ⟨rfl,rfl⟩ h
  have h1:=m.hm
  refine Zg (pf:=p130) rfl rfl rfl rfl (by simp [PV.lowL,PV.low,Zj,Zi,Zk,Zl,h1,Zo,Zr]) (by simp [PV.low,PV.lowL,Zj,Zi,Zk,Zl,h1,Zo,Zr]) ?_ h
  show kQ E _ (endQ [⟨8,some (some 2)⟩,⟨9,none⟩] _) .norm { lvl:=0,tmps:=mk 128 [(0,.agg m.c),(1,.vs fs (flds sc)),(2,.agg [.int .i64 k,.int .i64 o,.str nm,.int .i64 x,.vs fl (exs as)]),(3,.vs ft (tys ts))],heap:=[[none,none,none,none,none]],defers:=[] }
  have pu84:pureB E 84=true:=rfl
  cases as with
  | nil =>
    have hz:ts.length=0:=by simpa using hl
    repeat' first|(with_reducible first|refine cS ?_ ?_|refine oS ?_ ?_|refine dS ?_ ?_)<;>intro _|((with_reducible refine kk ?_ ?_);·rfl)|simp -implicitDefEqProofs(disch:=first|omega|assumption)only[push_cast,simprocAttr,Zd,Zc,Ze,Zb,Z8,hz]|(with_reducible first|refine cB ?_ ?_|refine oB ?_ ?_|refine dB ?_ ?_)<;>intro _
    simp [resourceF]
  | cons a r =>
    obtain ⟨k',o',nm',x',fl',as'⟩:=a
    have hz:ts.length=r.length+1:=by simpa using hl
    have hd1:headSz 2 (tys ts)=true:=tys_head
    by_cases hk4:k'=4
    · have hq0:¬ as'.length=0:=fun h=>hq ⟨o',nm',x',fl',r,by rw [hk4,List.eq_nil_of_length_eq_zero h]⟩
      repeat' first|(with_reducible first|refine cS ?_ ?_|refine oS ?_ ?_|refine dS ?_ ?_)<;>intro _|((with_reducible refine kk ?_ ?_);·rfl)|simp -implicitDefEqProofs(disch:=first|omega|assumption)only[push_cast,simprocAttr,Zd,Zc,Ze,Zb,Z8,hz,exs1,Ex.c,hk4]|(with_reducible first|refine cB ?_ ?_|refine oB ?_ ?_|refine dB ?_ ?_)<;>intro _
      have hp:0<as'.length:=by omega
      all_goals simp [resourceF,Ex.kind,Ex.name,Ex.args,hk4,hp]
    · repeat' first|(with_reducible first|refine cS ?_ ?_|refine oS ?_ ?_|refine dS ?_ ?_)<;>intro _|((with_reducible refine kk ?_ ?_);·rfl)|simp -implicitDefEqProofs(disch:=first|omega|assumption)only[push_cast,simprocAttr,Zd,Zc,Ze,Zb,Z8,hz,exs1,Ex.c]|(with_reducible first|refine cB ?_ ?_|refine oB ?_ ?_|refine dB ?_ ?_)<;>intro _
      all_goals simp [resourceF,Ex.kind,Ex.name,Ex.args,hk4]
def callF (m:Mod) (sc:List Fld) (nm:Str) (as:List Ex) (ts:List Ty):Ty × Int :=
  if 0<wordF nm then constructF m (wordF nm) ts
  else if 0≤stF m nm then matchF ts (fldsAt m (stF m nm)) ⟨8,nm⟩
  else if nm∈resNames then resourceF m sc nm as ts
  else if bltF nm then builtinF nm ts
  else if 0≤fnF m nm then (match m.fs[(fnF m nm).toNat]? with|some f=>matchF ts f.ps f.res|none=>(tz,13))
  else (tz,13)
def nodeF (m:Mod) (sc:List Fld) (k o:Int) (nm:Str) (x:Int) (as:List Ex) (ts:List Ty):Ty × Int :=
  if k=1 then litF 1 x 536870911 else if k=2 then litF 3 x 2147483647 else if k=3 then litF 4 x 1
  else if k=4 then varR m sc nm
  else if k=5 then unaryF o (ts.getD 0 tz)
  else if k=6 then binaryF o (ts.getD 0 tz) (ts.getD 1 tz)
  else if k=8 then memF m (ts.getD 0 tz) nm
  else if k=9 then (if isVc (ts.getD 0 tz).kind∧ts.getD 1 tz=⟨3,[]⟩ then (⟨1,[]⟩,0) else (tz,12))
  else callF m sc nm as ts
def outF (r:Ty × Int):Ty × Int:=if r.2≠0 then (tz,r.2) else (r.1,0)
def consX (t:Ty):Except Int (List Ty)→Except Int (List Ty)
  | .ok l=>.ok (t::l)
  | .error c=>.error c
mutual
def exprF (m:Mod) (sc:List Fld):Ex→Ty × Int
  | .mk k o nm x fl as =>
    if k≠7∧(as.length:Int)≠arityF k then (tz,10)
    else match argsF m sc (takesF m k nm) as with
      | .error c=>(tz,c)
      | .ok ts=>outF (nodeF m sc k o nm x as ts)
def argsF (m:Mod) (sc:List Fld) (skip:Bool):List Ex→Except Int (List Ty)
  | []=>.ok []
  | a::r=>if skip then consX tz (argsF m sc false r)
    else if (exprF m sc a).2≠0 then .error (exprF m sc a).2
    else consX (exprF m sc a).1 (argsF m sc false r)
end
end
section
theorem idxG_mem {α:Type} (p:α→Bool):∀ (l:List α) (i:Int),0≤i→(0≤idxG p l i↔∃ a∈l,p a=true)
  | [],i,h=>by simp [idxG]
  | a::r,i,h=>by
    have ih:=idxG_mem p r (i+1) (by omega)
    unfold idxG
    by_cases hp:p a=true
    · simp [hp,h]
    · simp [hp,ih]
theorem sidx_mem {l:List Str} {nm:Str}:(sidxF l nm≥0)=(nm∈l):=by
  have:=idxG_mem (fun s=>decide (nm=s)) l 0 (by omega)
  simp only [ge_iff_le,eq_iff_iff]
  unfold sidxF idxF
  rw [this]
  simp
theorem blt_nine {nm:Str} (h:bltF nm=true) (hr:nm ∉ resNames):nm∈nineL:=by
  simp only [bltF,sidx_mem,decide_eq_true_eq] at h
  simp [builtinsL,resNames,nineL] at h hr ⊢
  rcases h with h|h|h|h|h|h|h|h|h|h|h|h|h|h<;>simp [h] at hr ⊢
theorem fun_get {m:Mod} {j:Int} (h0:0≤j) (h1:j<m.fs.length):∃ f:Fun',f∈m.fs∧m.fs[j.toNat]?=some f∧(funs m.fs)[j.toNat]?=some (.agg (.str f.name::.vs f.fl (flds f.ps)::.int .i64 f.res.kind::.str f.res.name::.vs f.fb f.body::f.ret)):=by
  have:j.toNat<m.fs.length:=by omega
  exact ⟨m.fs[j.toNat],List.getElem_mem _,by simp [this],by simp [funs,this]⟩
theorem fnF_bd (m:Mod) (nm:Str) : -1≤fnF m nm∧fnF m nm<m.fs.length:=⟨(Xr _ _).1,(Xr _ _).2.1⟩
set_option maxHeartbeats 4000000 in
theorem call_ok (m:Mod) (hm:m.Ok) (fs:Fl) (sc:List Fld) (hsc:sc.length≤1048576) (o x:Int) (nm:Str) (fl:Fl) (as:List Ex) (ft:Fl) (ts:List Ty) (hl:ts.length=as.length) (hb:ts.length≤1048576) (h:Heap) :
    doCall E (callR E) 85 [.agg m.c,.vs fs (flds sc),.agg [.int .i64 7,.int .i64 o,.str nm,.int .i64 x,.vs fl (exs as)],.vs ft (tys ts)] h=some (encR (callF m sc nm as ts),h):=by
  have h1:=m.hm
  have hw:=wordF_bd nm
  have hs:=stF_bd m nm
  have hf:=fnF_bd m nm
  refine Zg (pf:=p85) rfl rfl rfl rfl (by simp [PV.lowL,PV.low,Zj,Zi,Zk,Zl,h1,Zo,Zr]) (by simp [PV.low,PV.lowL,Zj,Zi,Zk,Zl,h1,Zo,Zr]) ?_ h
  show kQ E _ (endQ [⟨8,some (some 2)⟩,⟨9,none⟩] _) .norm { lvl:=0,tmps:=mk 85 [(0,.agg m.c),(1,.vs fs (flds sc)),(2,.agg [.int .i64 7,.int .i64 o,.str nm,.int .i64 x,.vs fl (exs as)]),(3,.vs ft (tys ts))],heap:=[[none]],defers:=[] }
  by_cases w:0<wordF nm
  · repeat' first|(with_reducible first|refine cS ?_ ?_|refine oS ?_ ?_|refine dS ?_ ?_)<;>intro _|((with_reducible refine kk ?_ ?_);·rfl)|simp -implicitDefEqProofs(disch:=first|omega|assumption)only[push_cast,simprocAttr,Zd,Zc,Ze,Zb,h1,Zr,Xb,construct_ok,hm]|(with_reducible first|refine cB ?_ ?_|refine oB ?_ ?_|refine dB ?_ ?_)<;>intro _
    all_goals simp [callF,w]
  by_cases s:0≤stF m nm
  · obtain ⟨t,hmem,hg,hfs⟩:=scts_get (m:=m) (j:=stF m nm) s hs.2
    have hsl:=hm.sf t hmem
    have hmt:=fun h=>match_ok ft t.fl ts t.fs ⟨8,nm⟩ hsl hb h
    repeat' first|(with_reducible first|refine cS ?_ ?_|refine oS ?_ ?_|refine dS ?_ ?_)<;>intro _|((with_reducible refine kk ?_ ?_);·rfl)|simp -implicitDefEqProofs(disch:=first|omega|assumption)only[push_cast,simprocAttr,Zd,Zc,Ze,Zb,h1,Zr,Xb,Yt,hm,hg,hmt,w,s]|(with_reducible first|refine cB ?_ ?_|refine oB ?_ ?_|refine dB ?_ ?_)<;>intro _
    all_goals simp [callF,w,s,hfs]
  by_cases r:nm∈resNames
  · have ht:takesF m 7 nm=true:=by simp [takesF,r];omega
    repeat' first|(with_reducible first|refine cS ?_ ?_|refine oS ?_ ?_|refine dS ?_ ?_)<;>intro _|((with_reducible refine kk ?_ ?_);·rfl)|simp -implicitDefEqProofs(disch:=first|omega|assumption)only[push_cast,simprocAttr,Zd,Zc,Ze,Zb,h1,Zr,Xb,Yt,Yi,hm,w,s,ht,resource_ok,r]|(with_reducible first|refine cB ?_ ?_|refine oB ?_ ?_|refine dB ?_ ?_)<;>intro _
    all_goals simp [callF,w,s,r]
  have ht:takesF m 7 nm=false:=by simp [takesF,r]
  by_cases b:bltF nm=true
  · have hn:=blt_nine b r
    repeat' first|(with_reducible first|refine cS ?_ ?_|refine oS ?_ ?_|refine dS ?_ ?_)<;>intro _|((with_reducible refine kk ?_ ?_);·rfl)|simp -implicitDefEqProofs(disch:=first|omega|assumption)only[push_cast,simprocAttr,Zd,Zc,Ze,Zb,h1,Zr,Xb,Yt,Yi,hm,w,s,ht,blt_ok,b,bltin_ok]|(with_reducible first|refine cB ?_ ?_|refine oB ?_ ?_|refine dB ?_ ?_)<;>intro _
    all_goals simp [callF,w,s,r,b]
  have b':bltF nm=false:=by simpa using b
  by_cases f:0≤fnF m nm
  · obtain ⟨g,hmem,hg0,hg⟩:=fun_get (m:=m) (j:=fnF m nm) f hf.2
    have hpl:=hm.pf g hmem
    have hrl:=g.hl
    have hmt:=fun h=>match_ok ft g.fl ts g.ps g.res hpl hb h
    repeat' first|(with_reducible first|refine cS ?_ ?_|refine oS ?_ ?_|refine dS ?_ ?_)<;>intro _|((with_reducible refine kk ?_ ?_);·rfl)|simp -implicitDefEqProofs(disch:=first|omega|assumption)only[push_cast,simprocAttr,Zd,Zc,Ze,Zb,h1,Zr,Xb,Yt,Xk,Yi,hm,w,s,ht,blt_ok,b',f,hg,hrl,hmt]|(with_reducible first|refine cB ?_ ?_|refine oB ?_ ?_|refine dB ?_ ?_)<;>intro _
    all_goals simp [callF,w,s,r,b',f,hg0]
  · repeat' first|(with_reducible first|refine cS ?_ ?_|refine oS ?_ ?_|refine dS ?_ ?_)<;>intro _|((with_reducible refine kk ?_ ?_);·rfl)|simp -implicitDefEqProofs(disch:=first|omega|assumption)only[push_cast,simprocAttr,Zd,Zc,Ze,Zb,h1,Zr,Xb,Yt,Xk,Yi,hm,w,s,ht,blt_ok,b',f]|(with_reducible first|refine cB ?_ ?_|refine oB ?_ ?_|refine dB ?_ ?_)<;>intro _
    all_goals simp [callF,w,s,r,b',f]
end
section
set_option maxHeartbeats 4000000 in
theorem node_ok (m:Mod) (hm:m.Ok) (fs:Fl) (sc:List Fld) (hsc:sc.length≤1048576) (k o x:Int) (nm:Str) (fl:Fl) (as:List Ex) (ft:Fl) (ts:List Ty) (hl:ts.length=as.length) (hb:ts.length≤1048576) (ha:k=7∨(as.length:Int)=arityF k) (h:Heap) :
    doCall E (callR E) 37 [.agg m.c,.vs fs (flds sc),.agg [.int .i64 k,.int .i64 o,.str nm,.int .i64 x,.vs fl (exs as)],.vs ft (tys ts)] h=some (encR (nodeF m sc k o nm x as ts),h):=by
  have h1:=m.hm
  have hk:k=1∨k=2∨k=3∨k=4∨k=5∨k=6∨k=8∨k=9∨k=7:=by
    rcases ha with ha|ha
    · omega
    · unfold arityF at ha
      split at ha
      · omega
      · split at ha
        · omega
        · split at ha<;>omega
  rcases hk with hk|hk|hk|hk|hk|hk|hk|hk|hk
  · subst hk
    refine Zg (pf:=p37) rfl rfl rfl rfl (by simp [PV.lowL,PV.low,Zj,Zi,Zk,Zl,h1,Zo,Zr]) (by simp [PV.low,PV.lowL,Zj,Zi,Zk,Zl,h1,Zo,Zr]) ?_ h
    show kQ E _ (endQ [⟨8,some (some 2)⟩,⟨9,none⟩] _) .norm { lvl:=0,tmps:=mk 104 [(0,.agg m.c),(1,.vs fs (flds sc)),(2,.agg [.int .i64 1,.int .i64 o,.str nm,.int .i64 x,.vs fl (exs as)]),(3,.vs ft (tys ts))],heap:=[[none,none]],defers:=[] }
    have pu84:pureB E 84=true:=rfl
    repeat' first|(with_reducible first|refine cS ?_ ?_|refine oS ?_ ?_|refine dS ?_ ?_)<;>intro _|((with_reducible refine kk ?_ ?_);·rfl)|simp -implicitDefEqProofs(disch:=first|omega|assumption)only[push_cast,simprocAttr,Zd,Zc,Ze,Zb,lit_ok]|(with_reducible first|refine cB ?_ ?_|refine oB ?_ ?_|refine dB ?_ ?_)<;>intro _
    all_goals simp [nodeF]
  · subst hk
    refine Zg (pf:=p37) rfl rfl rfl rfl (by simp [PV.lowL,PV.low,Zj,Zi,Zk,Zl,h1,Zo,Zr]) (by simp [PV.low,PV.lowL,Zj,Zi,Zk,Zl,h1,Zo,Zr]) ?_ h
    show kQ E _ (endQ [⟨8,some (some 2)⟩,⟨9,none⟩] _) .norm { lvl:=0,tmps:=mk 104 [(0,.agg m.c),(1,.vs fs (flds sc)),(2,.agg [.int .i64 2,.int .i64 o,.str nm,.int .i64 x,.vs fl (exs as)]),(3,.vs ft (tys ts))],heap:=[[none,none]],defers:=[] }
    have pu84:pureB E 84=true:=rfl
    repeat' first|(with_reducible first|refine cS ?_ ?_|refine oS ?_ ?_|refine dS ?_ ?_)<;>intro _|((with_reducible refine kk ?_ ?_);·rfl)|simp -implicitDefEqProofs(disch:=first|omega|assumption)only[push_cast,simprocAttr,Zd,Zc,Ze,Zb,lit_ok]|(with_reducible first|refine cB ?_ ?_|refine oB ?_ ?_|refine dB ?_ ?_)<;>intro _
    all_goals simp [nodeF]
  · subst hk
    refine Zg (pf:=p37) rfl rfl rfl rfl (by simp [PV.lowL,PV.low,Zj,Zi,Zk,Zl,h1,Zo,Zr]) (by simp [PV.low,PV.lowL,Zj,Zi,Zk,Zl,h1,Zo,Zr]) ?_ h
    show kQ E _ (endQ [⟨8,some (some 2)⟩,⟨9,none⟩] _) .norm { lvl:=0,tmps:=mk 104 [(0,.agg m.c),(1,.vs fs (flds sc)),(2,.agg [.int .i64 3,.int .i64 o,.str nm,.int .i64 x,.vs fl (exs as)]),(3,.vs ft (tys ts))],heap:=[[none,none]],defers:=[] }
    have pu84:pureB E 84=true:=rfl
    repeat' first|(with_reducible first|refine cS ?_ ?_|refine oS ?_ ?_|refine dS ?_ ?_)<;>intro _|((with_reducible refine kk ?_ ?_);·rfl)|simp -implicitDefEqProofs(disch:=first|omega|assumption)only[push_cast,simprocAttr,Zd,Zc,Ze,Zb,lit_ok]|(with_reducible first|refine cB ?_ ?_|refine oB ?_ ?_|refine dB ?_ ?_)<;>intro _
    all_goals simp [nodeF]
  · subst hk
    refine Zg (pf:=p37) rfl rfl rfl rfl (by simp [PV.lowL,PV.low,Zj,Zi,Zk,Zl,h1,Zo,Zr]) (by simp [PV.low,PV.lowL,Zj,Zi,Zk,Zl,h1,Zo,Zr]) ?_ h
    show kQ E _ (endQ [⟨8,some (some 2)⟩,⟨9,none⟩] _) .norm { lvl:=0,tmps:=mk 104 [(0,.agg m.c),(1,.vs fs (flds sc)),(2,.agg [.int .i64 4,.int .i64 o,.str nm,.int .i64 x,.vs fl (exs as)]),(3,.vs ft (tys ts))],heap:=[[none,none]],defers:=[] }
    have pu84:pureB E 84=true:=rfl
    cases hv:varF m sc nm with
    | none =>
      repeat' first|(with_reducible first|refine cS ?_ ?_|refine oS ?_ ?_|refine dS ?_ ?_)<;>intro _|((with_reducible refine kk ?_ ?_);·rfl)|simp -implicitDefEqProofs(disch:=first|omega|assumption)only[push_cast,simprocAttr,Zd,Zc,Ze,Zb,var_ok,hm,hsc,h1,hv,Option.getD_none,Option.isSome_none]|(with_reducible first|refine cB ?_ ?_|refine oB ?_ ?_|refine dB ?_ ?_)<;>intro _
      all_goals simp [nodeF,varR,hv]
    | some t =>
      repeat' first|(with_reducible first|refine cS ?_ ?_|refine oS ?_ ?_|refine dS ?_ ?_)<;>intro _|((with_reducible refine kk ?_ ?_);·rfl)|simp -implicitDefEqProofs(disch:=first|omega|assumption)only[push_cast,simprocAttr,Zd,Zc,Ze,Zb,var_ok,hm,hsc,h1,hv,Option.getD_some,Option.isSome_some]|(with_reducible first|refine cB ?_ ?_|refine oB ?_ ?_|refine dB ?_ ?_)<;>intro _
      all_goals simp [nodeF,varR,hv]
  · subst hk
    obtain ⟨a,rfl⟩:=len1 (ts:=ts) (by simp [arityF] at ha;omega)
    refine Zg (pf:=p37) rfl rfl rfl rfl (by simp [PV.lowL,PV.low,Zj,Zi,Zk,Zl,h1,Zo,Zr]) (by simp [PV.low,PV.lowL,Zj,Zi,Zk,Zl,h1,Zo,Zr]) ?_ h
    show kQ E _ (endQ [⟨8,some (some 2)⟩,⟨9,none⟩] _) .norm { lvl:=0,tmps:=mk 104 [(0,.agg m.c),(1,.vs fs (flds sc)),(2,.agg [.int .i64 5,.int .i64 o,.str nm,.int .i64 x,.vs fl (exs as)]),(3,.vs ft (tys [a]))],heap:=[[none,none]],defers:=[] }
    have pu84:pureB E 84=true:=rfl
    repeat' first|(with_reducible first|refine cS ?_ ?_|refine oS ?_ ?_|refine dS ?_ ?_)<;>intro _|((with_reducible refine kk ?_ ?_);·rfl)|simp -implicitDefEqProofs(disch:=first|omega|assumption)only[push_cast,simprocAttr,Zd,Zc,Ze,Zb,tys1,unary_ok]|(with_reducible first|refine cB ?_ ?_|refine oB ?_ ?_|refine dB ?_ ?_)<;>intro _
    all_goals simp [nodeF]
  · subst hk
    obtain ⟨a,b,rfl⟩:=len2 (ts:=ts) (by simp [arityF] at ha;omega)
    refine Zg (pf:=p37) rfl rfl rfl rfl (by simp [PV.lowL,PV.low,Zj,Zi,Zk,Zl,h1,Zo,Zr]) (by simp [PV.low,PV.lowL,Zj,Zi,Zk,Zl,h1,Zo,Zr]) ?_ h
    show kQ E _ (endQ [⟨8,some (some 2)⟩,⟨9,none⟩] _) .norm { lvl:=0,tmps:=mk 104 [(0,.agg m.c),(1,.vs fs (flds sc)),(2,.agg [.int .i64 6,.int .i64 o,.str nm,.int .i64 x,.vs fl (exs as)]),(3,.vs ft (tys [a,b]))],heap:=[[none,none]],defers:=[] }
    have pu84:pureB E 84=true:=rfl
    repeat' first|(with_reducible first|refine cS ?_ ?_|refine oS ?_ ?_|refine dS ?_ ?_)<;>intro _|((with_reducible refine kk ?_ ?_);·rfl)|simp -implicitDefEqProofs(disch:=first|omega|assumption)only[push_cast,simprocAttr,Zd,Zc,Ze,Zb,tys2,binary_ok]|(with_reducible first|refine cB ?_ ?_|refine oB ?_ ?_|refine dB ?_ ?_)<;>intro _
    all_goals simp [nodeF]
  · subst hk
    obtain ⟨a,rfl⟩:=len1 (ts:=ts) (by simp [arityF] at ha;omega)
    refine Zg (pf:=p37) rfl rfl rfl rfl (by simp [PV.lowL,PV.low,Zj,Zi,Zk,Zl,h1,Zo,Zr]) (by simp [PV.low,PV.lowL,Zj,Zi,Zk,Zl,h1,Zo,Zr]) ?_ h
    show kQ E _ (endQ [⟨8,some (some 2)⟩,⟨9,none⟩] _) .norm { lvl:=0,tmps:=mk 104 [(0,.agg m.c),(1,.vs fs (flds sc)),(2,.agg [.int .i64 8,.int .i64 o,.str nm,.int .i64 x,.vs fl (exs as)]),(3,.vs ft (tys [a]))],heap:=[[none,none]],defers:=[] }
    have pu84:pureB E 84=true:=rfl
    repeat' first|(with_reducible first|refine cS ?_ ?_|refine oS ?_ ?_|refine dS ?_ ?_)<;>intro _|((with_reducible refine kk ?_ ?_);·rfl)|simp -implicitDefEqProofs(disch:=first|omega|assumption)only[push_cast,simprocAttr,Zd,Zc,Ze,Zb,tys1,mem_ok,hm,h1]|(with_reducible first|refine cB ?_ ?_|refine oB ?_ ?_|refine dB ?_ ?_)<;>intro _
    all_goals simp [nodeF]
  · subst hk
    obtain ⟨a,b,rfl⟩:=len2 (ts:=ts) (by simp [arityF] at ha;omega)
    refine Zg (pf:=p37) rfl rfl rfl rfl (by simp [PV.lowL,PV.low,Zj,Zi,Zk,Zl,h1,Zo,Zr]) (by simp [PV.low,PV.lowL,Zj,Zi,Zk,Zl,h1,Zo,Zr]) ?_ h
    show kQ E _ (endQ [⟨8,some (some 2)⟩,⟨9,none⟩] _) .norm { lvl:=0,tmps:=mk 104 [(0,.agg m.c),(1,.vs fs (flds sc)),(2,.agg [.int .i64 9,.int .i64 o,.str nm,.int .i64 x,.vs fl (exs as)]),(3,.vs ft (tys [a,b]))],heap:=[[none,none]],defers:=[] }
    have pu84:pureB E 84=true:=rfl
    cases hv:isVc a.kind
    all_goals
      repeat' first|(with_reducible first|refine cS ?_ ?_|refine oS ?_ ?_|refine dS ?_ ?_)<;>intro _|((with_reducible refine kk ?_ ?_);·rfl)|simp -implicitDefEqProofs(disch:=first|omega|assumption)only[push_cast,simprocAttr,Zb,Xv,Y9,tys2,Y7,Ye,hv]|(with_reducible first|refine cB ?_ ?_|refine oB ?_ ?_|refine dB ?_ ?_)<;>intro _
    all_goals first
      | (simp [nodeF,hv, *];done)
      | (have hv2:¬ (isVc a.kind=true∧b=⟨3,[]⟩):=by simp [hv]
         simp only [nodeF,List.getD_cons_zero,List.getD_cons_succ]
         simp only [if_neg hv2]
         simp)
  · subst hk
    refine Zg (pf:=p37) rfl rfl rfl rfl (by simp [PV.lowL,PV.low,Zj,Zi,Zk,Zl,h1,Zo,Zr]) (by simp [PV.low,PV.lowL,Zj,Zi,Zk,Zl,h1,Zo,Zr]) ?_ h
    show kQ E _ (endQ [⟨8,some (some 2)⟩,⟨9,none⟩] _) .norm { lvl:=0,tmps:=mk 104 [(0,.agg m.c),(1,.vs fs (flds sc)),(2,.agg [.int .i64 7,.int .i64 o,.str nm,.int .i64 x,.vs fl (exs as)]),(3,.vs ft (tys ts))],heap:=[[none,none]],defers:=[] }
    have pu84:pureB E 84=true:=rfl
    repeat' first|(with_reducible first|refine cS ?_ ?_|refine oS ?_ ?_|refine dS ?_ ?_)<;>intro _|((with_reducible refine kk ?_ ?_);·rfl)|simp -implicitDefEqProofs(disch:=first|omega|assumption)only[push_cast,simprocAttr,Zd,Zc,Ze,Zb,call_ok,hm,hsc,hl,hb,h1,Zr]|(with_reducible first|refine cB ?_ ?_|refine oB ?_ ?_|refine dB ?_ ?_)<;>intro _
    all_goals simp [nodeF]
end
section
def appX (acc:List Ty):Except Int (List Ty)→Except Int (List Ty)
  | .ok l=>.ok (acc++l)
  | .error c=>.error c
theorem appX_cons {acc:List Ty} {t:Ty} {r:Except Int (List Ty)}:appX acc (consX t r)=appX (acc++[t]) r:=by
  cases r<;>simp [appX,consX]
theorem set_tys {acc l:List Ty} {t:Ty} {k:Int} {n:Str} {j:Nat} (h:j=acc.length):(tys (acc++t::l)).set j (.agg [.int .i64 k,.str n])=tys (acc++⟨k,n⟩::l):=by
  subst h
  simp [tys]
theorem tys_at {acc l:List Ty} {t:Ty} {j:Nat} (h:j=acc.length):(tys (acc++t::l))[j]?=some (.agg [.int .i64 t.kind,.str t.name]):=by
  subst h
  exact Yd _ _ _ _
set_option maxHeartbeats 2000000 in
theorem ext_loop (m:Mod) (hm:m.Ok) {fs:Fl} (sc:List Fld) (k o x:Int) (nm:Str) (fl:Fl) (as:List Ex) (has:as.length≤1048576) (hrec:∀ a∈as,∀ h,doCall E (callR E) 11 [.agg m.c,.vs fs (flds sc),.agg a.c] h=some (encR (exprF m sc a),h)) (fin:Except Int (List Ty)) {o4:Option Ob} {ks:List KI} {Q:PEx→Fr→Prop}
    (hr:∀ t (acc:List Ty) (rest:List Ex) (o2 o3:Option Ob) c,fin=.error c→look t 6=.ptr (0,0) 1 0 0→look t 7=.int .i64 c→kQ E ks Q .ret { lvl:=0,tmps:=mk 76 t,heap:=[[cell0,some (.mem (tys (acc++List.replicate rest.length tz)) 1 true 2),o2,o3,o4]],defers:=[] })
    (hn:∀ t (acc:List Ty) (rest:List Ex) (o2 o3:Option Ob),rest=[]→fin=.ok acc→look t 1=.vs fs (flds sc)→look t 3=.ip m.c→look t 5=.ip [.int .i64 k,.int .i64 o,.str nm,.int .i64 x,.vs fl (exs as)]→look t 6=.ptr (0,0) 1 0 0→look t 8=.sl (0,1) 1 0 as.length→kQ E ks Q .norm { lvl:=0,tmps:=mk 76 t,heap:=[[cell0,some (.mem (tys (acc++List.replicate rest.length tz)) 1 true 2),o2,o3,o4]],defers:=[] }) :
    ∀ (rest pre:List Ex) (acc:List Ty) (o2 o3:Option Ob) (t:List (Nat × PV)),as=pre++rest→(appX acc (argsF m sc (takesF m k nm&&decide (pre.length=0)) rest)=fin)→(acc.length=pre.length) →
      look t 1=.vs fs (flds sc)→look t 3=.ip m.c→look t 5=.ip [.int .i64 k,.int .i64 o,.str nm,.int .i64 x,.vs fl (exs as)]→look t 6=.ptr (0,0) 1 0 0→look t 8=.sl (0,1) 1 0 as.length→look t 33=.vs fl (exs as)→look t 34=.int .i64 as.length→look t 35=.int .i64 pre.length →
      kQ E (.code p11l0::.blk 0::ks) Q .norm { lvl:=0,tmps:=mk 76 t,heap:=[[cell0,some (.mem (tys (acc++List.replicate rest.length tz)) 1 true 2),o2,o3,o4]],defers:=[] }:=by
  intro rest
  have h1':=m.hm
  induction rest with
  | nil =>
    intro pre acc o2 o3 t hl hi0 hi1 h1 h3 h5 h6 h8 h33 h34 h35
    have e:as.length=pre.length:=by rw [hl];simp
    refine loopK' (c:=p11l0) rfl ?_
    repeat' first|(with_reducible first|refine cS ?_ ?_|refine oS ?_ ?_|refine dS ?_ ?_)<;>intro _|((with_reducible refine kk ?_ ?_);·rfl)|simp -implicitDefEqProofs(disch:=first|omega|assumption)only[push_cast,simprocAttr,Zd,Zc,Ze,Zb,h1,h3,h5,h6,h8,h33,h34,h35,e,h1',Ex.low,Ex.c_len,take5,Yi,hm]|(with_reducible first|refine cB ?_ ?_|refine oB ?_ ?_|refine dB ?_ ?_)<;>intro _
    have q:=fun t=>hn t acc [] o2 o3 rfl (by rw [← hi0];simp [argsF,appX])
    simp only [List.length_nil,List.replicate_zero,List.append_nil] at q
    exact q _ (by simp [look,Za,h1]) (by simp [look,Za,h3]) (by simp [look,Za,h5]) (by simp [look,Za,h6]) (by simp [look,Za,h8])
  | cons s r ih =>
    intro pre acc o2 o3 t hl hi0 hi1 h1 h3 h5 h6 h8 h33 h34 h35
    have e:as.length=pre.length+r.length+1:=by rw [hl];simp;omega
    have hg:(exs as)[pre.length]?=some (.agg s.c):=by rw [hl,exs_map];exact Yd _ _ _ _
    have hq:=hrec s (by rw [hl];simp)
    have hlow:=s.low
    have hrep:List.replicate (s::r).length tz=tz::List.replicate r.length tz:=rfl
    have happ:∀ t:Ty,acc++t::List.replicate r.length tz=(acc++[t])++List.replicate r.length tz:=fun t=>by simp
    have hge:(tys (acc++tz::List.replicate r.length tz))[pre.length]?=some (.agg [.int .i64 0,.str []]):=tys_at hi1.symm
    have hset:∀ (k:Int) (n:Str),(tys (acc++tz::List.replicate r.length tz)).set pre.length (.agg [.int .i64 k,.str n])=tys (acc++⟨k,n⟩::List.replicate r.length tz):=fun k n=>set_tys hi1.symm
    have hlen:(tys (acc++tz::List.replicate r.length tz)).length=as.length:=by rw [Z8];simp;omega
    rw [hrep]
    by_cases hsk:(takesF m k nm&&decide (pre.length=0))=true
    · have ht:takesF m k nm=true:=by simp at hsk;exact hsk.1
      have hp0:(pre.length:Int)=0:=by simp at hsk;simp [hsk.2]
      refine loopK' (c:=p11l0) rfl ?_
      repeat' first|(with_reducible first|refine cS ?_ ?_|refine oS ?_ ?_|refine dS ?_ ?_)<;>intro _|((with_reducible refine kk ?_ ?_);·rfl)|simp -implicitDefEqProofs(disch:=first|omega|assumption)only[push_cast,simprocAttr,Zd,Zc,Ze,Zb,h1,h3,h5,h6,h8,h33,h34,h35,hg,h1',Ex.low,Ex.c_len,take5,Yi,hm,ht]|(with_reducible first|refine cB ?_ ?_|refine oB ?_ ?_|refine dB ?_ ?_)<;>intro _
      rw [happ]
      refine ih (pre++[s]) (acc++[tz]) _ _ _ (by simp [hl]) (by rw [← hi0,argsF,hsk];simp [appX_cons]) (by simp [hi1]) (by simp [look,Za,h1]) (by simp [look,Za,h3]) (by simp [look,Za,h5]) (by simp [look,Za,h6]) (by simp [look,Za,h8]) (by simp [look,Za,h33]) (by simp [look,Za,h34]) (by simp [look,Za,h35])
    have hsk':(takesF m k nm&&decide (pre.length=0))=false:=by simpa using hsk
    have ha2:(takesF m k nm&&decide ((pre++[s]).length=0))=false:=by simp
    by_cases h0:(pre.length:Int)=0
    · have ht:takesF m k nm=false:=by
        have:pre.length=0:=by omega
        simpa [this] using hsk
      by_cases he:(exprF m sc s).2=0
      · have hargs:argsF m sc (takesF m k nm&&decide (pre.length=0)) (s::r)=consX (exprF m sc s).1 (argsF m sc false r):=by rw [hsk',argsF];simp [he]
        refine loopK' (c:=p11l0) rfl ?_
        repeat' first|(with_reducible first|refine cS ?_ ?_|refine oS ?_ ?_|refine dS ?_ ?_)<;>intro _|((with_reducible refine kk ?_ ?_);·rfl)|simp -implicitDefEqProofs(disch:=first|omega|assumption)only[push_cast,simprocAttr,Zd,Zc,Ze,Zb,h1,h3,h5,h6,h8,h33,h34,h35,hg,h1',Ex.low,Ex.c_len,take5,Yi,hm,ht,hq,hge,hset,hlen,he]|(with_reducible first|refine cB ?_ ?_|refine oB ?_ ?_|refine dB ?_ ?_)<;>intro _
        rw [happ]
        refine ih (pre++[s]) (acc++[(exprF m sc s).1]) _ _ _ (by simp [hl]) (by rw [← hi0,hargs,appX_cons,ha2]) (by simp [hi1]) (by simp [look,Za,h1]) (by simp [look,Za,h3]) (by simp [look,Za,h5]) (by simp [look,Za,h6]) (by simp [look,Za,h8]) (by simp [look,Za,h33]) (by simp [look,Za,h34]) (by simp [look,Za,h35])
      · have hargs:argsF m sc (takesF m k nm&&decide (pre.length=0)) (s::r)=.error (exprF m sc s).2:=by rw [hsk',argsF];simp [he]
        refine loopK' (c:=p11l0) rfl ?_
        repeat' first|(with_reducible first|refine cS ?_ ?_|refine oS ?_ ?_|refine dS ?_ ?_)<;>intro _|((with_reducible refine kk ?_ ?_);·rfl)|simp -implicitDefEqProofs(disch:=first|omega|assumption)only[push_cast,simprocAttr,Zd,Zc,Ze,Zb,h1,h3,h5,h6,h8,h33,h34,h35,hg,h1',Ex.low,Ex.c_len,take5,Yi,hm,ht,hq]|(with_reducible first|refine cB ?_ ?_|refine oB ?_ ?_|refine dB ?_ ?_)<;>intro _
        exact hr _ _ (s::r) _ _ (exprF m sc s).2 (by rw [← hi0,hargs];rfl) (by simp [look,Za,h6]) (by simp [look])
    · by_cases he:(exprF m sc s).2=0
      · have hargs:argsF m sc (takesF m k nm&&decide (pre.length=0)) (s::r)=consX (exprF m sc s).1 (argsF m sc false r):=by rw [hsk',argsF];simp [he]
        refine loopK' (c:=p11l0) rfl ?_
        repeat' first|(with_reducible first|refine cS ?_ ?_|refine oS ?_ ?_|refine dS ?_ ?_)<;>intro _|((with_reducible refine kk ?_ ?_);·rfl)|simp -implicitDefEqProofs(disch:=first|omega|assumption)only[push_cast,simprocAttr,Zd,Zc,Ze,Zb,h1,h3,h5,h6,h8,h33,h34,h35,hg,h1',Ex.low,Ex.c_len,take5,Yi,hm,hq,hge,hset,hlen,he]|(with_reducible first|refine cB ?_ ?_|refine oB ?_ ?_|refine dB ?_ ?_)<;>intro _
        rw [happ]
        refine ih (pre++[s]) (acc++[(exprF m sc s).1]) _ _ _ (by simp [hl]) (by rw [← hi0,hargs,appX_cons,ha2]) (by simp [hi1]) (by simp [look,Za,h1]) (by simp [look,Za,h3]) (by simp [look,Za,h5]) (by simp [look,Za,h6]) (by simp [look,Za,h8]) (by simp [look,Za,h33]) (by simp [look,Za,h34]) (by simp [look,Za,h35])
      · have hargs:argsF m sc (takesF m k nm&&decide (pre.length=0)) (s::r)=.error (exprF m sc s).2:=by rw [hsk',argsF];simp [he]
        refine loopK' (c:=p11l0) rfl ?_
        repeat' first|(with_reducible first|refine cS ?_ ?_|refine oS ?_ ?_|refine dS ?_ ?_)<;>intro _|((with_reducible refine kk ?_ ?_);·rfl)|simp -implicitDefEqProofs(disch:=first|omega|assumption)only[push_cast,simprocAttr,Zd,Zc,Ze,Zb,h1,h3,h5,h6,h8,h33,h34,h35,hg,h1',Ex.low,Ex.c_len,take5,Yi,hm,hq]|(with_reducible first|refine cB ?_ ?_|refine oB ?_ ?_|refine dB ?_ ?_)<;>intro _
        exact hr _ _ (s::r) _ _ (exprF m sc s).2 (by rw [← hi0,hargs];rfl) (by simp [look,Za,h6]) (by simp [look])
end
section
mutual
def Ex.size:Ex→Nat
  | .mk _ _ _ _ _ as=>1+sizeL as
def sizeL:List Ex→Nat
  | []=>0
  | e::r=>e.size+sizeL r
end
theorem Ex.size_mem {e:Ex}:∀ {l:List Ex},e∈l→e.size≤sizeL l
  | [],h=>by cases h
  | x::l,h=>by
    rcases List.mem_cons.1 h with rfl|h
    · simp [sizeL]
    · have:=Ex.size_mem h;simp [sizeL];omega
theorem sizeL_len:∀ l:List Ex,l.length≤sizeL l
  | []=>Nat.le_refl _
  | e::l=>by
    have:=sizeL_len l
    have:1≤e.size:=by cases e;simp [Ex.size]
    simp [sizeL];omega
theorem node_own (m:Mod) (hm:m.Ok) (fs:Fl) (sc:List Fld) (hsc:sc.length≤1048576) (k o x:Int) (nm:Str) (fl:Fl) (as:List Ex) (ts:List Ty) (hl:ts.length=as.length) (hb:ts.length≤1048576) (ha:k=7∨(as.length:Int)=arityF k) (c0 o2 o3 o4:Option Ob) :
    doCall E (callR E) 37 [.agg m.c,.vs fs (flds sc),.agg [.int .i64 k,.int .i64 o,.str nm,.int .i64 x,.vs fl (exs as)],.sl (0,1) 1 0 as.length] [[c0,some (.mem (tys ts) 1 true 2),o2,o3,o4]]=some (encR (nodeF m sc k o nm x as ts),[[c0,some (.mem (tys ts) 1 true 2),o2,o3,o4]]):=by
  have h1:=m.hm
  have ht:(tys ts).take as.length=tys ts:=List.take_of_length_le (by rw [Z8];omega)
  refine call_snap (pf:=p37) (args':=[.agg m.c,.vs fs (flds sc),.agg [.int .i64 k,.int .i64 o,.str nm,.int .i64 x,.vs fl (exs as)],.vs .any (tys ts)]) rfl rfl (by simp [PV.lowL,PV.low,Zj,Zi,Zk,Zl,h1,Zo];rfl) ?_ (by simp [PV.lowL,PV.low,Zj,Zi,Zk,Zl,h1,Zo,Zr]) (node_ok m hm fs sc hsc k o x nm fl as .any ts hl hb ha _) rfl
  simp [mapO,snap,PV.low,PV.lowL,Zj,Zi,Zk,Zl,h1,Zo,hget,Z8,ht,hl]
theorem repl_tys {n:Nat}:List.replicate n (PV.agg [.int .i64 0,.str []])=tys (List.replicate n tz):=by simp [tys]
theorem appX_nil {r:Except Int (List Ty)}:appX [] r=r:=by cases r<;>simp [appX]
theorem args_len {m:Mod} {sc:List Fld}:∀ {as:List Ex} {skip:Bool} {ts:List Ty},argsF m sc skip as=.ok ts→ts.length=as.length
  | [],skip,ts,h=>by simp [argsF] at h;subst h;rfl
  | a::r,skip,ts,h=>by
    unfold argsF at h
    have go:∀ t,consX t (argsF m sc false r)=.ok ts→ts.length=(a::r).length:=by
      intro t h
      cases hr:argsF m sc false r with
      | error c=>rw [hr] at h;simp [consX] at h
      | ok l =>
        rw [hr] at h
        simp [consX] at h
        subst h
        simp [args_len hr]
    split at h
    · exact go _ h
    · split at h
      · cases h
      · exact go _ h
set_option maxHeartbeats 4000000 in
theorem exprtype_ok:∀ (n:Nat) (e:Ex),e.size≤n→e.size≤1048576→∀ (m:Mod) (hm:m.Ok) (fs:Fl) (sc:List Fld) (hsc:sc.length≤1048576) (h:Heap),
    doCall E (callR E) 11 [.agg m.c,.vs fs (flds sc),.agg e.c] h=some (encR (exprF m sc e),h)
  | 0,.mk k o nm x fl as,hn,_,_,_,_,_,_,_=>by simp [Ex.size] at hn
  | n+1,.mk k o nm x fl as,hn,hok,m,hm,fs,sc,hsc,h=>by
    have hsz:1+sizeL as≤1048576:=by simpa [Ex.size] using hok
    have has:as.length≤1048576:=by have:=sizeL_len as;omega
    have hrec:∀ a∈as,∀ h,doCall E (callR E) 11 [.agg m.c,.vs fs (flds sc),.agg a.c] h=some (encR (exprF m sc a),h):=by
      intro a ha h
      have:=Ex.size_mem ha
      exact exprtype_ok n a (by simp [Ex.size] at hn;omega) (by omega) m hm fs sc hsc h
    have h1:=m.hm
    rw [show (Ex.mk k o nm x fl as).c=[.int .i64 k,.int .i64 o,.str nm,.int .i64 x,.vs fl (exs as)] from by simp [Ex.c]]
    by_cases hk:k≠7∧(as.length:Int)≠arityF k
    · obtain ⟨hk1,hk2⟩:=hk
      refine Zg (pf:=p11) rfl rfl rfl rfl (by simp [PV.lowL,PV.low,Zj,Zi,Zk,Zl,h1,Zo]) (by simp [PV.low,PV.lowL,Zj,Zi,Zk,Zl,h1,Zo]) ?_ h
      show kQ E _ (endQ [⟨6,some (some 2)⟩,⟨7,none⟩] _) .norm { lvl:=0,tmps:=mk 76 [(0,.agg m.c),(1,.vs fs (flds sc)),(2,.agg [.int .i64 k,.int .i64 o,.str nm,.int .i64 x,.vs fl (exs as)])],heap:=[[none,none,none,none,none]],defers:=[] }
      have pu35:pureB E 35=true:=rfl
      repeat' first|(with_reducible first|refine cS ?_ ?_|refine oS ?_ ?_|refine dS ?_ ?_)<;>intro _|((with_reducible refine kk ?_ ?_);·rfl)|simp -implicitDefEqProofs(disch:=first|omega|assumption)only[push_cast,simprocAttr,Zd,Zc,Ze,Zb,arity_ok,hk1,hk2]|(with_reducible first|refine cB ?_ ?_|refine oB ?_ ?_|refine dB ?_ ?_)<;>intro _
      all_goals simp [exprF,hk1,hk2]
    · have ha:k=7∨(as.length:Int)=arityF k:=by omega
      have hx:exprF m sc (.mk k o nm x fl as)=(match argsF m sc (takesF m k nm) as with|.error c=>(tz,c)|.ok ts=>outF (nodeF m sc k o nm x as ts)):=by rw [exprF,if_neg hk];all_goals (cases argsF m sc (takesF m k nm) as<;>rfl)
      have ha0:=ha
      have hin:appX [] (argsF m sc (takesF m k nm&&decide (([]:List Ex).length=0)) as)=argsF m sc (takesF m k nm) as:=by simp [appX_nil]
      have hnil:tys (List.replicate as.length tz)=tys ([]++List.replicate as.length tz):=rfl
      rw [hx]
      rcases ha with ha|ha
      · subst ha
        refine Zg (pf:=p11) rfl rfl rfl rfl (by simp [PV.lowL,PV.low,Zj,Zi,Zk,Zl,h1,Zo]) (by simp [PV.low,PV.lowL,Zj,Zi,Zk,Zl,h1,Zo]) ?_ h
        show kQ E _ (endQ [⟨6,some (some 2)⟩,⟨7,none⟩] _) .norm { lvl:=0,tmps:=mk 76 [(0,.agg m.c),(1,.vs fs (flds sc)),(2,.agg [.int .i64 7,.int .i64 o,.str nm,.int .i64 x,.vs fl (exs as)])],heap:=[[none,none,none,none,none]],defers:=[] }
        have pu35:pureB E 35=true:=rfl
        repeat' first|(with_reducible first|refine cS ?_ ?_|refine oS ?_ ?_|refine dS ?_ ?_)<;>intro _|((with_reducible refine kk ?_ ?_);·rfl)|simp -implicitDefEqProofs(disch:=first|omega|assumption)only[push_cast,simprocAttr,Zd,Zc,Ze,Zb,arity_ok,repl_tys]|(with_reducible first|refine cB ?_ ?_|refine oB ?_ ?_|refine dB ?_ ?_)<;>intro _
        rw [hnil]
        with_reducible refine ext_loop m hm (fs:=fs) sc 7 o x nm fl as has hrec (argsF m sc (takesF m 7 nm) as) ?_ ?_ as [] [] _ _ _ rfl hin rfl ?_ ?_ ?_ ?_ ?_ ?_ ?_ ?_
        all_goals first
          | (simp [look,Za];done)
          | skip
        · intro t acc rest o2 o3 c hc k6 k7
          rw [hc]
          repeat' first|(with_reducible first|refine cS ?_ ?_|refine oS ?_ ?_|refine dS ?_ ?_)<;>intro _|((with_reducible refine kk ?_ ?_);·rfl)|simp -implicitDefEqProofs(disch:=first|omega|assumption)only[push_cast,simprocAttr,Zd,Zc,Ze,Zb,k6,k7]|(with_reducible first|refine cB ?_ ?_|refine oB ?_ ?_|refine dB ?_ ?_)<;>intro _
        · intro t acc rest o2 o3 hr hf k1 k3 k5 k6 k8
          have hlen:=args_len hf
          have hacc:acc.length≤1048576:=by omega
          rw [hf]
          repeat' first|(with_reducible first|refine cS ?_ ?_|refine oS ?_ ?_|refine dS ?_ ?_)<;>intro _|((with_reducible refine kk ?_ ?_);·rfl)|simp -implicitDefEqProofs(disch:=first|omega|assumption)only[push_cast,simprocAttr,Zd,Zc,Ze,Zb,k1,k3,k5,k6,k8,h1,node_own,hm,hsc,ha0,hlen,has,hr,List.length_nil,List.replicate_zero]|(with_reducible first|refine cB ?_ ?_|refine oB ?_ ?_|refine dB ?_ ?_)<;>intro _
          all_goals rename_i hz
          all_goals first
            | (simp [outF,hz];done)
            | (have hz':=Decidable.not_not.1 hz;simp [outF,hz'];done)
            | trace_state
      · have ha':=ha.symm
        refine Zg (pf:=p11) rfl rfl rfl rfl (by simp [PV.lowL,PV.low,Zj,Zi,Zk,Zl,h1,Zo]) (by simp [PV.low,PV.lowL,Zj,Zi,Zk,Zl,h1,Zo]) ?_ h
        show kQ E _ (endQ [⟨6,some (some 2)⟩,⟨7,none⟩] _) .norm { lvl:=0,tmps:=mk 76 [(0,.agg m.c),(1,.vs fs (flds sc)),(2,.agg [.int .i64 k,.int .i64 o,.str nm,.int .i64 x,.vs fl (exs as)])],heap:=[[none,none,none,none,none]],defers:=[] }
        have pu35:pureB E 35=true:=rfl
        repeat' first|(with_reducible first|refine cS ?_ ?_|refine oS ?_ ?_|refine dS ?_ ?_)<;>intro _|((with_reducible refine kk ?_ ?_);·rfl)|simp -implicitDefEqProofs(disch:=first|omega|assumption)only[push_cast,simprocAttr,Zd,Zc,Ze,Zb,arity_ok,ha',repl_tys]|(with_reducible first|refine cB ?_ ?_|refine oB ?_ ?_|refine dB ?_ ?_)<;>intro _
        all_goals
          rw [hnil]
          with_reducible refine ext_loop m hm (fs:=fs) sc k o x nm fl as has hrec (argsF m sc (takesF m k nm) as) ?_ ?_ as [] [] _ _ _ rfl hin rfl ?_ ?_ ?_ ?_ ?_ ?_ ?_ ?_
          all_goals first
            | (simp [look,Za];done)
            | skip
          · intro t acc rest o2 o3 c hc k6 k7
            rw [hc]
            repeat' first|(with_reducible first|refine cS ?_ ?_|refine oS ?_ ?_|refine dS ?_ ?_)<;>intro _|((with_reducible refine kk ?_ ?_);·rfl)|simp -implicitDefEqProofs(disch:=first|omega|assumption)only[push_cast,simprocAttr,Zd,Zc,Ze,Zb,k6,k7]|(with_reducible first|refine cB ?_ ?_|refine oB ?_ ?_|refine dB ?_ ?_)<;>intro _
          · intro t acc rest o2 o3 hr hf k1 k3 k5 k6 k8
            have hlen:=args_len hf
            have hacc:acc.length≤1048576:=by omega
            rw [hf]
            repeat' first|(with_reducible first|refine cS ?_ ?_|refine oS ?_ ?_|refine dS ?_ ?_)<;>intro _|((with_reducible refine kk ?_ ?_);·rfl)|simp -implicitDefEqProofs(disch:=first|omega|assumption)only[push_cast,simprocAttr,Zd,Zc,Ze,Zb,k1,k3,k5,k6,k8,h1,node_own,hm,hsc,ha0,hlen,has,hr,List.length_nil,List.replicate_zero]|(with_reducible first|refine cB ?_ ?_|refine oB ?_ ?_|refine dB ?_ ?_)<;>intro _
            all_goals rename_i hz
            all_goals first
              | (simp [outF,hz];done)
              | (have hz':=Decidable.not_not.1 hz;simp [outF,hz'];done)
              | trace_state
def Ty.Cl (t:Ty):Prop:=t.kind≠8→t.name=[]
def Ty.Kn (t:Ty):Prop:=1≤t.kind∧t.kind≤8
end
section
def whenF (b:Bool) (e:Int):Int:=if b then e else 0
theorem Yn (b:Bool) (e:Int) (h:Heap):doCall E (callR E) 67 [.bool b,.int .i64 e] h=some (.int .i64 (whenF b e),h):=by
  refine Zg (pf:=p67) rfl rfl rfl rfl (by simp [PV.lowL,PV.low]) (by simp [PV.low,PV.lowL]) ?_ h
  show kQ E _ (endQ [⟨4,none⟩] _) .norm { lvl:=0,tmps:=mk 7 [(0,.bool b),(1,.int .i64 e)],heap:=[[]],defers:=[] }
  cases b
  all_goals
    repeat' first|(with_reducible first|refine cS ?_ ?_|refine oS ?_ ?_|refine dS ?_ ?_)<;>intro _|((with_reducible refine kk ?_ ?_);·rfl)|simp -implicitDefEqProofs(disch:=first|omega|assumption)only[push_cast,simprocAttr,Zd,Zc,Ze,Zb]|(with_reducible first|refine cB ?_ ?_|refine oB ?_ ?_|refine dB ?_ ?_)<;>intro _
  all_goals rfl
theorem glob2:E.glob 2=.ip [.vs .any (strs otherL)]:=rfl
theorem glob3:E.glob 3=.ip [.vs .any (strs wordsL)]:=rfl
theorem amg_loop {f:Fl} (l:List Str) (hb:l.length≤1048576) (nm:Str) {ks:List KI} {Q:PEx→Fr→Prop}
    (hr:∀ t,nm∈l→look t 4=.bool true→kQ E ks Q .ret { lvl:=0,tmps:=mk 17 t,heap:=[[]],defers:=[] })
    (hn:∀ t,nm ∉ l→kQ E ks Q .norm { lvl:=0,tmps:=mk 17 t,heap:=[[]],defers:=[] }) :
    ∀ (rest pre:List Str)  (t:List (Nat × PV)),l=pre++rest→((nm∈rest)=(nm∈l)) →
      look t 0=.str nm→look t 7=.vs f (strs l)→look t 8=.int .i64 l.length→look t 9=.int .i64 pre.length →
      kQ E (.code p171l0::.blk 0::ks) Q .norm { lvl:=0,tmps:=mk 17 t,heap:=[[]],defers:=[] }:=by
  intro rest
  induction rest with
  | nil =>
    intro pre  t hl hi0 h0 h7 h8 h9
    have e:l.length=pre.length:=by rw [hl];simp
    refine loopK' (c:=p171l0) rfl ?_
    repeat' first|(with_reducible first|refine cS ?_ ?_|refine oS ?_ ?_|refine dS ?_ ?_)<;>intro _|((with_reducible refine kk ?_ ?_);·rfl)|simp -implicitDefEqProofs(disch:=first|omega|assumption)only[push_cast,simprocAttr,Zd,Zc,Ze,Zb,h0,h7,h8,h9,e,binS,Yw]|(with_reducible first|refine cB ?_ ?_|refine oB ?_ ?_|refine dB ?_ ?_)<;>intro _
    exact hn _ (by rw [← hi0];simp)
  | cons s r ih =>
    intro pre  t hl hi0 h0 h7 h8 h9
    have e:l.length=pre.length+r.length+1:=by rw [hl];simp;omega
    have hg:(strs l)[pre.length]?=some (.str s):=by rw [hl];exact Yd _ _ _ _
    refine loopK' (c:=p171l0) rfl ?_
    repeat' first|(with_reducible first|refine cS ?_ ?_|refine oS ?_ ?_|refine dS ?_ ?_)<;>intro _|((with_reducible refine kk ?_ ?_);·rfl)|simp -implicitDefEqProofs(disch:=first|omega|assumption)only[push_cast,simprocAttr,Zd,Zc,Ze,Zb,h0,h7,h8,h9,hg,binS,Yw]|(with_reducible first|refine cB ?_ ?_|refine oB ?_ ?_|refine dB ?_ ?_)<;>intro _
    · rename_i hp
      exact hr _ (by rw [← hi0,hp];simp) (by simp [look])
    · rename_i hp
      refine ih (pre++[s])  _ (by simp [hl]) (by rw [← hi0];simp [Ne.symm hp]) (by simp [look,Za,h0]) (by simp [look,Za,h7]) (by simp [look,Za,h8]) (by simp [look,Za,h9])
theorem amg_ok (f:Fl) (l:List Str) (hb:l.length≤1048576) (nm:Str) (h:Heap):doCall E (callR E) 171 [.str nm,.vs f (strs l)] h=some (.bool (decide (nm∈l)),h):=by
  refine Zg (pf:=p171) rfl rfl rfl rfl (by simp [PV.lowL,PV.low,Zj]) (by simp [PV.low,PV.lowL,Zj]) ?_ h
  show kQ E _ (endQ [⟨4,none⟩] _) .norm { lvl:=0,tmps:=mk 17 [(0,.str nm),(1,.vs f (strs l))],heap:=[[]],defers:=[] }
  repeat' first|(with_reducible first|refine cS ?_ ?_|refine oS ?_ ?_|refine dS ?_ ?_)<;>intro _|((with_reducible refine kk ?_ ?_);·rfl)|simp -implicitDefEqProofs(disch:=first|omega|assumption)only[push_cast,simprocAttr,Zd,Zc,Ze,Zb]|(with_reducible first|refine cB ?_ ?_|refine oB ?_ ?_|refine dB ?_ ?_)<;>intro _
  refine amg_loop (f:=f) l hb nm ?_ ?_ l [] _ rfl rfl (by simp [look,Za]) (by simp [look,Za]) (by simp [look,Za]) (by simp [look,Za])
  · intro t hm h4
    repeat' first|(with_reducible first|refine cS ?_ ?_|refine oS ?_ ?_|refine dS ?_ ?_)<;>intro _|((with_reducible refine kk ?_ ?_);·rfl)|simp -implicitDefEqProofs(disch:=first|omega|assumption)only[push_cast,simprocAttr,Zd,Zc,Ze,Zb,h4]|(with_reducible first|refine cB ?_ ?_|refine oB ?_ ?_|refine dB ?_ ?_)<;>intro _
    all_goals simp [hm]
  · intro t hm
    repeat' first|(with_reducible first|refine cS ?_ ?_|refine oS ?_ ?_|refine dS ?_ ?_)<;>intro _|((with_reducible refine kk ?_ ?_);·rfl)|simp -implicitDefEqProofs(disch:=first|omega|assumption)only[push_cast,simprocAttr,Zd,Zc,Ze,Zb]|(with_reducible first|refine cB ?_ ?_|refine oB ?_ ?_|refine dB ?_ ?_)<;>intro _
    all_goals simp [hm]
theorem tw_ok (nm:Str) (h:Heap):doCall E (callR E) 170 [.str nm] h=some (.bool (decide (nm∈wordsL)),h):=by
  have h1:wordsL.length≤1048576:=by decide
  refine Zg (pf:=p170) rfl rfl rfl rfl (by simp [PV.lowL,PV.low]) (by simp [PV.low,PV.lowL]) ?_ h
  show kQ E _ (endQ [⟨2,none⟩] _) .norm { lvl:=0,tmps:=mk 6 [(0,.str nm)],heap:=[[]],defers:=[] }
  repeat' first|(with_reducible first|refine cS ?_ ?_|refine oS ?_ ?_|refine dS ?_ ?_)<;>intro _|((with_reducible refine kk ?_ ?_);·rfl)|simp -implicitDefEqProofs(disch:=first|omega|assumption)only[push_cast,simprocAttr,Zd,Zc,Ze,Zb,glob3,amg_ok,h1]|(with_reducible first|refine cB ?_ ?_|refine oB ?_ ?_|refine dB ?_ ?_)<;>intro _
def kwF (nm:Str):Bool:=decide (nm∈wordsL)||decide (nm∈otherL)
theorem kw_ok (nm:Str) (h:Heap):doCall E (callR E) 150 [.str nm] h=some (.bool (kwF nm),h):=by
  have h1:otherL.length≤1048576:=by decide
  cases hw:decide (nm∈wordsL)
  all_goals
    refine Zg (pf:=p150) rfl rfl rfl rfl (by simp [PV.lowL,PV.low]) (by simp [PV.low,PV.lowL]) ?_ h
    show kQ E _ (endQ [⟨2,none⟩] _) .norm { lvl:=0,tmps:=mk 10 [(0,.str nm)],heap:=[[]],defers:=[] }
    repeat' first|(with_reducible first|refine cS ?_ ?_|refine oS ?_ ?_|refine dS ?_ ?_)<;>intro _|((with_reducible refine kk ?_ ?_);·rfl)|simp -implicitDefEqProofs(disch:=first|omega|assumption)only[push_cast,simprocAttr,Zd,Zc,Ze,Zb,glob2,tw_ok,amg_ok,h1,hw]|(with_reducible first|refine cB ?_ ?_|refine oB ?_ ?_|refine dB ?_ ?_)<;>intro _
  all_goals simp [kwF,hw]
def letB (c:UInt8):Bool:=(decide (97≤(c.toNat:Int))&&decide ((c.toNat:Int)≤122))||((decide (65≤(c.toNat:Int))&&decide ((c.toNat:Int)≤90))||decide ((c.toNat:Int)=95))
def digB (c:UInt8):Bool:=decide (48≤(c.toNat:Int))&&decide ((c.toNat:Int)≤57)
def nmG:Bool→Str→Bool
  | _,[]=>true
  | first,c::r=>(letB c||(!first&&digB c))&&nmG false r
def nmF (nm:Str):Bool:=decide (nm≠[])&&(decide (nm.length≤16)&&nmG true nm)
set_option maxHeartbeats 4000000 in
theorem fin_loop (nm:Str) (hb:nm.length≤16) (fin:Bool) {ks:List KI} {Q:PEx→Fr→Prop}
    (hr:∀ t,fin=false→look t 2=.bool false→kQ E ks Q .ret { lvl:=0,tmps:=mk 54 t,heap:=[[]],defers:=[] })
    (hn:∀ t,fin=true→kQ E ks Q .norm { lvl:=0,tmps:=mk 54 t,heap:=[[]],defers:=[] }) :
    ∀ (rest pre:List UInt8)  (t:List (Nat × PV)),nm=pre++rest→(nmG (decide (pre.length=0)) rest=fin) →
      look t 0=.str nm→look t 3=.int .i64 pre.length →
      kQ E (.code p149l0::.blk 0::ks) Q .norm { lvl:=0,tmps:=mk 54 t,heap:=[[]],defers:=[] }:=by
  intro rest
  induction rest with
  | nil =>
    intro pre  t hl hi0 h0 h3
    have e:nm.length=pre.length:=by rw [hl];simp
    refine loopK' (c:=p149l0) rfl ?_
    repeat' first|(with_reducible first|refine cS ?_ ?_|refine oS ?_ ?_|refine dS ?_ ?_)<;>intro _|((with_reducible refine kk ?_ ?_);·rfl)|simp -implicitDefEqProofs(disch:=first|omega|assumption)only[push_cast,simprocAttr,Zd,Zc,Ze,Zb,h0,h3,e,List.length_cons]|(with_reducible first|refine cB ?_ ?_|refine oB ?_ ?_|refine dB ?_ ?_)<;>intro _
    exact hn _ (by rw [← hi0];rfl)
  | cons s r ih =>
    intro pre  t hl hi0 h0 h3
    have e:nm.length=pre.length+r.length+1:=by rw [hl];simp;omega
    have hg:(nm)[pre.length]?=some (s):=by rw [hl];simp
    have hp:∀ b,(decide ((pre++[s]).length=0))=b→b=false:=by intro b hb;rw [← hb];simp
    have hgo:letB s=true∨(pre.length≠0∧digB s=true)→nmG (decide ((pre++[s]).length=0)) r=fin:=by
      intro hg
      rw [← hi0,nmG]
      rcases hg with hg|⟨h1,h2⟩
      · simp [hg]
      · simp [h1,h2]
    have hno:letB s=false→(pre.length=0∨digB s=false)→fin=false:=by
      intro h1 h2
      rw [← hi0,nmG,h1]
      rcases h2 with h2|h2<;>simp [h2]
    by_cases l1:letB s=true
    · have hgo:=hgo (.inl l1)
      have l2:(97≤(s.toNat:Int)∧(s.toNat:Int)≤122)∨(65≤(s.toNat:Int)∧(s.toNat:Int)≤90)∨(s.toNat:Int)=95:=by simpa [letB] using l1
      refine loopK' (c:=p149l0) rfl ?_
      repeat' first|(with_reducible first|refine cS ?_ ?_|refine oS ?_ ?_|refine dS ?_ ?_)<;>intro _|((with_reducible refine kk ?_ ?_);·rfl)|simp -implicitDefEqProofs(disch:=first|omega|assumption)only[push_cast,simprocAttr,Zd,Zc,Ze,Zb,h0,h3,hg]|(with_reducible first|refine cB ?_ ?_|refine oB ?_ ?_|refine dB ?_ ?_)<;>intro _
      all_goals first
        | (exfalso;omega)
        | refine ih (pre++[s])  _ (by simp [hl]) hgo (by simp [look,Za,h0]) (by simp [look,Za,h3])
    · have l1:letB s=false:=by simpa using l1
      have l2:¬ ((97≤(s.toNat:Int)∧(s.toNat:Int)≤122)∨(65≤(s.toNat:Int)∧(s.toNat:Int)≤90)∨(s.toNat:Int)=95):=by
        intro hc
        have:letB s=true:=by simpa [letB] using hc
        rw [this] at l1;cases l1
      by_cases d1:digB s=true
      · have d2:48≤(s.toNat:Int)∧(s.toNat:Int)≤57:=by simpa [digB] using d1
        refine loopK' (c:=p149l0) rfl ?_
        repeat' first|(with_reducible first|refine cS ?_ ?_|refine oS ?_ ?_|refine dS ?_ ?_)<;>intro _|((with_reducible refine kk ?_ ?_);·rfl)|simp -implicitDefEqProofs(disch:=first|omega|assumption)only[push_cast,simprocAttr,Zd,Zc,Ze,Zb,h0,h3,hg]|(with_reducible first|refine cB ?_ ?_|refine oB ?_ ?_|refine dB ?_ ?_)<;>intro _
        all_goals first
          | (exfalso;omega)
          | exact hr _ (hno l1 (.inl (by omega))) (by simp [look])
          | refine ih (pre++[s])  _ (by simp [hl]) (hgo (.inr ⟨by omega,d1⟩)) (by simp [look,Za,h0]) (by simp [look,Za,h3])
      · have d1:digB s=false:=by simpa using d1
        have d2:¬ (48≤(s.toNat:Int)∧(s.toNat:Int)≤57):=by
          intro hc
          have:digB s=true:=by simpa [digB] using hc
          rw [this] at d1;cases d1
        refine loopK' (c:=p149l0) rfl ?_
        repeat' first|(with_reducible first|refine cS ?_ ?_|refine oS ?_ ?_|refine dS ?_ ?_)<;>intro _|((with_reducible refine kk ?_ ?_);·rfl)|simp -implicitDefEqProofs(disch:=first|omega|assumption)only[push_cast,simprocAttr,Zd,Zc,Ze,Zb,h0,h3,hg]|(with_reducible first|refine cB ?_ ?_|refine oB ?_ ?_|refine dB ?_ ?_)<;>intro _
        all_goals first
          | (exfalso;omega)
          | exact hr _ (hno l1 (.inr d1)) (by simp [look])
theorem fname_ok (nm:Str) (h:Heap):doCall E (callR E) 149 [.str nm] h=some (.bool (nmF nm),h):=by
  refine Zg (pf:=p149) rfl rfl rfl rfl (by simp [PV.lowL,PV.low]) (by simp [PV.low,PV.lowL]) ?_ h
  show kQ E _ (endQ [⟨2,none⟩] _) .norm { lvl:=0,tmps:=mk 54 [(0,.str nm)],heap:=[[]],defers:=[] }
  by_cases h0:nm=[]
  · repeat' first|(with_reducible first|refine cS ?_ ?_|refine oS ?_ ?_|refine dS ?_ ?_)<;>intro _|((with_reducible refine kk ?_ ?_);·rfl)|simp -implicitDefEqProofs(disch:=first|omega|assumption)only[push_cast,simprocAttr,Zd,Zc,Ze,Zb,h0,binS,Yw]|(with_reducible first|refine cB ?_ ?_|refine oB ?_ ?_|refine dB ?_ ?_)<;>intro _
    all_goals simp [nmF]
  · by_cases h1:nm.length≤16
    · repeat' first|(with_reducible first|refine cS ?_ ?_|refine oS ?_ ?_|refine dS ?_ ?_)<;>intro _|((with_reducible refine kk ?_ ?_);·rfl)|simp -implicitDefEqProofs(disch:=first|omega|assumption)only[push_cast,simprocAttr,Zd,Zc,Ze,Zb,h0,h1,binS,Yw]|(with_reducible first|refine cB ?_ ?_|refine oB ?_ ?_|refine dB ?_ ?_)<;>intro _
      refine fin_loop nm h1 (nmG true nm) ?_ ?_ nm [] _ rfl rfl (by simp [look,Za]) (by simp [look,Za])
      · intro t hm h2
        repeat' first|(with_reducible first|refine cS ?_ ?_|refine oS ?_ ?_|refine dS ?_ ?_)<;>intro _|((with_reducible refine kk ?_ ?_);·rfl)|simp -implicitDefEqProofs(disch:=first|omega|assumption)only[push_cast,simprocAttr,Zd,Zc,Ze,Zb,h2]|(with_reducible first|refine cB ?_ ?_|refine oB ?_ ?_|refine dB ?_ ?_)<;>intro _
        all_goals simp [nmF,hm]
      · intro t hm
        repeat' first|(with_reducible first|refine cS ?_ ?_|refine oS ?_ ?_|refine dS ?_ ?_)<;>intro _|((with_reducible refine kk ?_ ?_);·rfl)|simp -implicitDefEqProofs(disch:=first|omega|assumption)only[push_cast,simprocAttr,Zd,Zc,Ze,Zb]|(with_reducible first|refine cB ?_ ?_|refine oB ?_ ?_|refine dB ?_ ?_)<;>intro _
        all_goals simp [nmF,hm,h0,h1]
    · repeat' first|(with_reducible first|refine cS ?_ ?_|refine oS ?_ ?_|refine dS ?_ ?_)<;>intro _|((with_reducible refine kk ?_ ?_);·rfl)|simp -implicitDefEqProofs(disch:=first|omega|assumption)only[push_cast,simprocAttr,Zd,Zc,Ze,Zb,h0,h1,binS,Yw]|(with_reducible first|refine cB ?_ ?_|refine oB ?_ ?_|refine dB ?_ ?_)<;>intro _
      all_goals simp [nmF,h1]
def nameF (nm:Str):Bool:=nmF nm&&(!kwF nm&&!bltF nm)
theorem Y0 (nm:Str) (h:Heap):doCall E (callR E) 111 [.str nm] h=some (.bool (nameF nm),h):=by
  cases b1:nmF nm
  all_goals cases b2:kwF nm
  all_goals cases b3:bltF nm
  all_goals
    refine Zg (pf:=p111) rfl rfl rfl rfl (by simp [PV.lowL,PV.low]) (by simp [PV.low,PV.lowL]) ?_ h
    show kQ E _ (endQ [⟨2,none⟩] _) .norm { lvl:=0,tmps:=mk 15 [(0,.str nm)],heap:=[[]],defers:=[] }
    repeat' first|(with_reducible first|refine cS ?_ ?_|refine oS ?_ ?_|refine dS ?_ ?_)<;>intro _|((with_reducible refine kk ?_ ?_);·rfl)|simp -implicitDefEqProofs(disch:=first|omega|assumption)only[push_cast,simprocAttr,Zd,Zc,Ze,Zb,fname_ok,kw_ok,blt_ok,b1,b2,b3]|(with_reducible first|refine cB ?_ ?_|refine oB ?_ ?_|refine dB ?_ ?_)<;>intro _
  all_goals simp [nameF,b1,b2,b3]
end
section
def Ty.Gd (t:Ty):Prop:=t.Cl∧t.Kn
structure Mod.Gd (m:Mod):Prop where
  us:∀ f∈m.us,f.ty.Gd
  ins:∀ f∈m.ins,f.ty.Gd
  outs:∀ f∈m.outs,f.ty.Gd
  ss:∀ s∈m.ss,∀ f∈s.fs,f.ty.Gd
  fs:∀ f∈m.fs,f.res.Gd
end
section
def tyB (t:Ty):Bool:=decide (t.kind=8)||decide (t.name=[])
mutual
def St.cl:St→Bool
  | .mk _ _ t _ _ _ _ b _ e=>tyB t&&(clSts b&&clSts e)
def clSts:List St→Bool
  | []=>true
  | s::r=>s.cl&&clSts r
end
mutual
def St.size:St→Nat
  | .mk _ _ _ _ _ _ _ b _ e=>1+sizeS b+sizeS e
def sizeS:List St→Nat
  | []=>0
  | s::r=>s.size+sizeS r
end
theorem St.size_eq (s:St):s.size=1+sizeS s.body+sizeS s.els:=by cases s;simp [St.size,St.body,St.els]
theorem St.c17 (s:St):s.c=[.int .i64 s.kind,.str s.name,.int .i64 s.ty.kind,.str s.ty.name,.int .i64 s.target.kind,.int .i64 s.target.op,.str s.target.name,.int .i64 s.target.value,.vs s.target.fl (exs s.target.args),.int .i64 s.value.kind,.int .i64 s.value.op,.str s.value.name,.int .i64 s.value.value,.vs s.value.fl (exs s.value.args),.int .i64 s.count,.vs s.fb (sts s.body),.vs s.fe (sts s.els)]:=by
  rw [s.c_eq,s.target.c_eq,s.value.c_eq];rfl
end
section
def mxI (a b:Int):Int:=if b>a then b else a
theorem Yh {a b:Int}:(if b>a then b else a)=mxI a b:=rfl
mutual
def Ex.nn:Ex→Int
  | .mk _ _ _ _ _ as=>1+nnL as
def nnL:List Ex→Int
  | []=>0
  | e::r=>e.nn+nnL r
end
theorem Ex.nn_eq (e:Ex):e.nn=1+nnL e.args:=by cases e;simp [Ex.nn,Ex.args]
theorem Ex.size_eq (e:Ex):e.size=1+sizeL e.args:=by cases e;simp [Ex.size,Ex.args]
mutual
theorem Ex.nn_bd:∀ e:Ex,0≤e.nn∧e.nn≤e.size
  | .mk _ _ _ _ _ as=>by
    have:=nnL_bd as
    simp only [Ex.nn,Ex.size]
    omega
theorem nnL_bd:∀ l:List Ex,0≤nnL l∧nnL l≤sizeL l
  | []=>by simp [nnL,sizeL]
  | e::r=>by
    have:=e.nn_bd
    have:=nnL_bd r
    simp only [nnL,sizeL]
    omega
end
theorem enn_loop (as:List Ex) {fl:Fl} (has:as.length≤1048576) (hrec:∀ a∈as,a.size≤1048576∧∀ h,doCall E (callR E) 145 [.agg a.c] h=some (.int .i64 a.nn,h)) (fin:Int) {ks:List KI} {Q:PEx→Fr→Prop}
    (hn:∀ t o0,look t 3=.int .i64 fin→kQ E ks Q .norm { lvl:=0,tmps:=mk 19 t,heap:=[[o0]],defers:=[] }) :
    ∀ (rest pre:List Ex) (n:Int) (o0:Option Ob) (t:List (Nat × PV)),as=pre++rest→(n+nnL rest=fin)→(0≤n)→(n+sizeL rest≤4294967296) →
      look t 3=.int .i64 n→look t 7=.vs fl (exs as)→look t 8=.int .i64 as.length→look t 9=.int .i64 pre.length →
      kQ E (.code p145l0::.blk 0::ks) Q .norm { lvl:=0,tmps:=mk 19 t,heap:=[[o0]],defers:=[] }:=by
  intro rest
  induction rest with
  | nil =>
    intro pre n o0 t hl hi0 hi1 hi2 h3 h7 h8 h9
    have e:as.length=pre.length:=by rw [hl];simp
    refine loopK' (c:=p145l0) rfl ?_
    repeat' first|(with_reducible first|refine cS ?_ ?_|refine oS ?_ ?_|refine dS ?_ ?_)<;>intro _|((with_reducible refine kk ?_ ?_);·rfl)|simp -implicitDefEqProofs(disch:=first|omega|assumption)only[push_cast,simprocAttr,Zd,Zc,Ze,Zb,h3,h7,h8,h9,e]|(with_reducible first|refine cB ?_ ?_|refine oB ?_ ?_|refine dB ?_ ?_)<;>intro _
    exact hn _ _ (by rw [← hi0,nnL];simp [look,Za,h3])
  | cons s r ih =>
    intro pre n o0 t hl hi0 hi1 hi2 h3 h7 h8 h9
    have e:as.length=pre.length+r.length+1:=by rw [hl];simp;omega
    have hg:(exs as)[pre.length]?=some (.agg [.int .i64 s.kind,.int .i64 s.op,.str s.name,.int .i64 s.value,.vs s.fl (exs s.args)]):=by rw [hl,exs_map,← s.c_eq];exact Yd _ _ _ _
    obtain ⟨hsz,hq⟩:=hrec s (by rw [hl];simp)
    have hb:=s.nn_bd
    rw [s.c_eq] at hq
    simp only [sizeL] at hi2
    refine loopK' (c:=p145l0) rfl ?_
    repeat' first|(with_reducible first|refine cS ?_ ?_|refine oS ?_ ?_|refine dS ?_ ?_)<;>intro _|((with_reducible refine kk ?_ ?_);·rfl)|simp -implicitDefEqProofs(disch:=first|omega|assumption)only[push_cast,simprocAttr,Zd,Zc,Ze,Zb,h3,h7,h8,h9,hg,hq]|(with_reducible first|refine cB ?_ ?_|refine oB ?_ ?_|refine dB ?_ ?_)<;>intro _
    refine ih (pre++[s]) (n+s.nn) _ _ (by simp [hl]) (by rw [← hi0,nnL];omega) (by omega) (by omega) (by simp [look,Za]) (by simp [look,Za,h7]) (by simp [look,Za,h8]) (by simp [look,Za])
theorem enn_ok:∀ (n:Nat) (e:Ex),e.size≤n→e.size≤1048576→∀ (h:Heap),doCall E (callR E) 145 [.agg e.c] h=some (.int .i64 e.nn,h):=by
  intro n
  induction n with
  | zero=>intro e hn;rw [e.size_eq] at hn;omega
  | succ n ih =>
    intro e hn hb h
    obtain ⟨k,o,nm,x,fl,as⟩:=e
    have hsz:=Ex.size_eq (.mk k o nm x fl as)
    simp only [Ex.args] at hsz
    have hlen:=sizeL_len as
    rw [show (Ex.mk k o nm x fl as).c=[.int .i64 k,.int .i64 o,.str nm,.int .i64 x,.vs fl (exs as)] from by simp [Ex.c]]
    refine Zg (pf:=p145) rfl rfl rfl rfl (by simp [PV.lowL,PV.low,Zo]) (by simp [PV.low,PV.lowL,Zo]) ?_ h
    show kQ E _ (endQ [⟨2,none⟩] _) .norm { lvl:=0,tmps:=mk 19 [(0,.agg [.int .i64 k,.int .i64 o,.str nm,.int .i64 x,.vs fl (exs as)])],heap:=[[none]],defers:=[] }
    repeat' first|(with_reducible first|refine cS ?_ ?_|refine oS ?_ ?_|refine dS ?_ ?_)<;>intro _|((with_reducible refine kk ?_ ?_);·rfl)|simp -implicitDefEqProofs(disch:=first|omega|assumption)only[push_cast,simprocAttr,Zd,Zc,Ze,Zb]|(with_reducible first|refine cB ?_ ?_|refine oB ?_ ?_|refine dB ?_ ?_)<;>intro _
    with_reducible refine enn_loop as (fl:=fl) (by omega) ?_ (Ex.mk k o nm x fl as).nn ?_ as [] 1 _ _ rfl (by simp [Ex.nn]) (by omega) (by omega) (by simp [look,Za]) (by simp [look,Za]) (by simp [look,Za]) (by simp [look,Za])
    · intro a ha
      have:=Ex.size_mem ha
      exact ⟨by omega,fun h=>ih a (by omega) (by omega) h⟩
    · intro t o0 h3
      repeat' first|(with_reducible first|refine cS ?_ ?_|refine oS ?_ ?_|refine dS ?_ ?_)<;>intro _|((with_reducible refine kk ?_ ?_);·rfl)|simp -implicitDefEqProofs(disch:=first|omega|assumption)only[push_cast,simprocAttr,Zd,Zc,Ze,Zb,h3]|(with_reducible first|refine cB ?_ ?_|refine oB ?_ ?_|refine dB ?_ ?_)<;>intro _
def St.cs (s:St):List Ex:=if s.kind=2 then [s.target,s.value] else if s.kind=1∨s.kind=3 then [s.value] else []
def cflF (k:Int):Fl:=if k=1∨k=2∨k=3 then .clip else .nil
theorem exs2 {a b:Ex}:exs [a,b]=[.agg [.int .i64 a.kind,.int .i64 a.op,.str a.name,.int .i64 a.value,.vs a.fl (exs a.args)],.agg [.int .i64 b.kind,.int .i64 b.op,.str b.name,.int .i64 b.value,.vs b.fl (exs b.args)]]:=by simp [exs,Ex.c_eq]
theorem exs1' {a:Ex}:exs [a]=[.agg [.int .i64 a.kind,.int .i64 a.op,.str a.name,.int .i64 a.value,.vs a.fl (exs a.args)]]:=by simp [exs,Ex.c_eq]
abbrev St.v17 (s:St):PV:=.agg [.int .i64 s.kind,.str s.name,.int .i64 s.ty.kind,.str s.ty.name,.int .i64 s.target.kind,.int .i64 s.target.op,.str s.target.name,.int .i64 s.target.value,.vs s.target.fl (exs s.target.args),.int .i64 s.value.kind,.int .i64 s.value.op,.str s.value.name,.int .i64 s.value.value,.vs s.value.fl (exs s.value.args),.int .i64 s.count,.vs s.fb (sts s.body),.vs s.fe (sts s.els)]
theorem cnt_ok (s:St) (h:Heap):doCall E (callR E) 169 [.agg [.int .i64 s.kind,.str s.name,.int .i64 s.ty.kind,.str s.ty.name,.int .i64 s.target.kind,.int .i64 s.target.op,.str s.target.name,.int .i64 s.target.value,.vs s.target.fl (exs s.target.args),.int .i64 s.value.kind,.int .i64 s.value.op,.str s.value.name,.int .i64 s.value.value,.vs s.value.fl (exs s.value.args),.int .i64 s.count,.vs s.fb (sts s.body),.vs s.fe (sts s.els)]] h=some (.vs (cflF s.kind) (exs s.cs),h):=by
  by_cases k2:s.kind=2
  · rw [show s.cs=[s.target,s.value] from by simp [St.cs,k2],show cflF s.kind=.clip from by simp [cflF,k2],exs2]
    refine Zg (pf:=p169) rfl rfl rfl rfl (by simp [PV.lowL,PV.low,Zo,Yr]) (by simp [PV.low,PV.lowL,Zo,Yr]) ?_ h
    show kQ E _ (endQ [⟨2,none⟩] _) .norm { lvl:=0,tmps:=mk 18 [(0,s.v17)],heap:=[[]],defers:=[] }
    repeat' first|(with_reducible first|refine cS ?_ ?_|refine oS ?_ ?_|refine dS ?_ ?_)<;>intro _|((with_reducible refine kk ?_ ?_);·rfl)|simp -implicitDefEqProofs(disch:=first|omega|assumption)only[push_cast,simprocAttr,Zd,Zc,Ze,Zb,k2]|(with_reducible first|refine cB ?_ ?_|refine oB ?_ ?_|refine dB ?_ ?_)<;>intro _
  · by_cases k1:s.kind=1
    · rw [show s.cs=[s.value] from by simp [St.cs,k1],show cflF s.kind=.clip from by simp [cflF,k1],exs1']
      refine Zg (pf:=p169) rfl rfl rfl rfl (by simp [PV.lowL,PV.low,Zo,Yr]) (by simp [PV.low,PV.lowL,Zo,Yr]) ?_ h
      show kQ E _ (endQ [⟨2,none⟩] _) .norm { lvl:=0,tmps:=mk 18 [(0,s.v17)],heap:=[[]],defers:=[] }
      repeat' first|(with_reducible first|refine cS ?_ ?_|refine oS ?_ ?_|refine dS ?_ ?_)<;>intro _|((with_reducible refine kk ?_ ?_);·rfl)|simp -implicitDefEqProofs(disch:=first|omega|assumption)only[push_cast,simprocAttr,Zd,Zc,Ze,Zb,k1,k2]|(with_reducible first|refine cB ?_ ?_|refine oB ?_ ?_|refine dB ?_ ?_)<;>intro _
    · by_cases k3:s.kind=3
      · rw [show s.cs=[s.value] from by simp [St.cs,k3],show cflF s.kind=.clip from by simp [cflF,k3],exs1']
        refine Zg (pf:=p169) rfl rfl rfl rfl (by simp [PV.lowL,PV.low,Zo,Yr]) (by simp [PV.low,PV.lowL,Zo,Yr]) ?_ h
        show kQ E _ (endQ [⟨2,none⟩] _) .norm { lvl:=0,tmps:=mk 18 [(0,s.v17)],heap:=[[]],defers:=[] }
        repeat' first|(with_reducible first|refine cS ?_ ?_|refine oS ?_ ?_|refine dS ?_ ?_)<;>intro _|((with_reducible refine kk ?_ ?_);·rfl)|simp -implicitDefEqProofs(disch:=first|omega|assumption)only[push_cast,simprocAttr,Zd,Zc,Ze,Zb,k1,k2,k3]|(with_reducible first|refine cB ?_ ?_|refine oB ?_ ?_|refine dB ?_ ?_)<;>intro _
      · rw [show s.cs=[] from by simp [St.cs,k1,k2,k3],show cflF s.kind=.nil from by simp [cflF,k1,k2,k3],show exs []=[] from by simp [exs]]
        refine Zg (pf:=p169) rfl rfl rfl rfl (by simp [PV.lowL,PV.low,Zo,Yr]) (by simp [PV.low,PV.lowL,Zo,Yr]) ?_ h
        show kQ E _ (endQ [⟨2,none⟩] _) .norm { lvl:=0,tmps:=mk 18 [(0,s.v17)],heap:=[[]],defers:=[] }
        repeat' first|(with_reducible first|refine cS ?_ ?_|refine oS ?_ ?_|refine dS ?_ ?_)<;>intro _|((with_reducible refine kk ?_ ?_);·rfl)|simp -implicitDefEqProofs(disch:=first|omega|assumption)only[push_cast,simprocAttr,Zd,Zc,Ze,Zb,k1,k2,k3]|(with_reducible first|refine cB ?_ ?_|refine oB ?_ ?_|refine dB ?_ ?_)<;>intro _
end
section
mutual
def St.sz:St→Nat
  | .mk _ _ _ tg v _ _ b _ e=>1+tg.size+v.size+szS b+szS e
def szS:List St→Nat
  | []=>0
  | s::r=>s.sz+szS r
end
theorem St.sz_eq (s:St):s.sz=1+s.target.size+s.value.size+szS s.body+szS s.els:=by cases s;simp [St.sz,St.target,St.value,St.body,St.els]
theorem Xc {s:St}:∀ {l:List St},s∈l→s.sz≤szS l
  | [],h=>by cases h
  | x::l,h=>by
    rcases List.mem_cons.1 h with rfl|h
    · simp [szS]
    · have:=Xc h;simp [szS];omega
theorem szS_len:∀ l:List St,l.length≤szS l
  | []=>Nat.le_refl _
  | e::l=>by
    have:=szS_len l
    have:1≤e.sz:=by rw [e.sz_eq];omega
    simp [szS];omega
mutual
def St.nn:St→Int
  | .mk k _ _ tg v _ _ b _ e=>1+(nnS b+nnS e)+(if k=2 then tg.nn+v.nn else if k=1∨k=3 then v.nn else 0)
def nnS:List St→Int
  | []=>0
  | s::r=>s.nn+nnS r
end
theorem St.nn_eq (s:St):s.nn=1+(nnS s.body+nnS s.els)+nnL s.cs:=by
  obtain ⟨k,n,t,tg,v,ct,fb,b,fe,e⟩:=s
  by_cases h2:k=2
  · simp [St.nn,St.cs,St.kind,St.target,St.value,St.body,St.els,h2,nnL]
  · by_cases h1:k=1∨k=3
    · simp [St.nn,St.cs,St.kind,St.target,St.value,St.body,St.els,h2,h1,nnL]
    · simp [St.nn,St.cs,St.kind,St.target,St.value,St.body,St.els,h2,h1,nnL]
mutual
theorem St.nn_bd:∀ s:St,0≤s.nn∧s.nn≤s.sz
  | .mk k n t tg v ct fb b fe e=>by
    have:=nnS_bd b
    have:=nnS_bd e
    have:=tg.nn_bd
    have:=v.nn_bd
    simp only [St.nn,St.sz]
    (repeat' split)<;>omega
theorem nnS_bd:∀ l:List St,0≤nnS l∧nnS l≤szS l
  | []=>by simp [nnS,szS]
  | s::r=>by
    have:=s.nn_bd
    have:=nnS_bd r
    simp only [nnS,szS]
    omega
end
theorem St.cs_sz (s:St):sizeL s.cs≤s.target.size+s.value.size:=by
  unfold St.cs
  split
  · simp [sizeL]
  · split<;>simp [sizeL]
theorem nd1_loop (cs:List Ex) {fc:Fl} (hcs:cs.length≤1048576) (hz:∀ a∈cs,a.size≤1048576) (fin:Int) {o0:Option Ob} {v10 v11 v12:PV} {ks:List KI} {Q:PEx→Fr→Prop}
    (hn:∀ t o1,look t 3=.int .i64 fin→look t 10=v10→look t 11=v11→look t 12=v12→kQ E ks Q .norm { lvl:=0,tmps:=mk 39 t,heap:=[[o0,o1]],defers:=[] }) :
    ∀ (rest pre:List Ex) (n:Int) (o1:Option Ob) (t:List (Nat × PV)),cs=pre++rest→(n+nnL rest=fin)→(0≤n)→(n+sizeL rest≤4294967296) →
      look t 3=.int .i64 n→look t 10=v10→look t 11=v11→look t 12=v12→look t 26=.vs fc (exs cs)→look t 27=.int .i64 cs.length→look t 28=.int .i64 pre.length →
      kQ E (.code p144l1::.blk 2::ks) Q .norm { lvl:=0,tmps:=mk 39 t,heap:=[[o0,o1]],defers:=[] }:=by
  intro rest
  induction rest with
  | nil =>
    intro pre n o1 t hl hi0 hi1 hi2 h3 h10 h11 h12 h26 h27 h28
    have e:cs.length=pre.length:=by rw [hl];simp
    refine loopK' (c:=p144l1) rfl ?_
    repeat' first|(with_reducible first|refine cS ?_ ?_|refine oS ?_ ?_|refine dS ?_ ?_)<;>intro _|((with_reducible refine kk ?_ ?_);·rfl)|simp -implicitDefEqProofs(disch:=first|omega|assumption)only[push_cast,simprocAttr,Zd,Zc,Ze,Zb,h3,h10,h11,h12,h26,h27,h28,e]|(with_reducible first|refine cB ?_ ?_|refine oB ?_ ?_|refine dB ?_ ?_)<;>intro _
    exact hn _ _ (by rw [← hi0,nnL];simp [look,Za,h3]) (by simp [look,Za,h10]) (by simp [look,Za,h11]) (by simp [look,Za,h12])
  | cons s r ih =>
    intro pre n o1 t hl hi0 hi1 hi2 h3 h10 h11 h12 h26 h27 h28
    have e:cs.length=pre.length+r.length+1:=by rw [hl];simp;omega
    have hg:(exs cs)[pre.length]?=some (.agg [.int .i64 s.kind,.int .i64 s.op,.str s.name,.int .i64 s.value,.vs s.fl (exs s.args)]):=by rw [hl,exs_map,← s.c_eq];exact Yd _ _ _ _
    have hsz:=hz s (by rw [hl];simp)
    have hq:=fun h=>enn_ok _ s (Nat.le_refl _) hsz h
    have hb:=s.nn_bd
    rw [s.c_eq] at hq
    simp only [sizeL] at hi2
    refine loopK' (c:=p144l1) rfl ?_
    repeat' first|(with_reducible first|refine cS ?_ ?_|refine oS ?_ ?_|refine dS ?_ ?_)<;>intro _|((with_reducible refine kk ?_ ?_);·rfl)|simp -implicitDefEqProofs(disch:=first|omega|assumption)only[push_cast,simprocAttr,Zd,Zc,Ze,Zb,h3,h10,h11,h12,h26,h27,h28,hg,hq]|(with_reducible first|refine cB ?_ ?_|refine oB ?_ ?_|refine dB ?_ ?_)<;>intro _
    refine ih (pre++[s]) (n+s.nn) _ _ (by simp [hl]) (by rw [← hi0,nnL];omega) (by omega) (by omega) (by simp [look,Za]) (by simp [look,Za,h10]) (by simp [look,Za,h11]) (by simp [look,Za,h12]) (by simp [look,Za,h26]) (by simp [look,Za,h27]) (by simp [look,Za])
set_option maxHeartbeats 2000000 in
theorem nd0_loop (l:List St) {f:Fl} (hlen:l.length≤1048576) (hrec:∀ s∈l,s.sz≤1048576∧(∀ h,doCall E (callR E) 144 [.vs s.fb (sts s.body)] h=some (.int .i64 (nnS s.body),h))∧(∀ h,doCall E (callR E) 144 [.vs s.fe (sts s.els)] h=some (.int .i64 (nnS s.els),h))) (fin:Int) {ks:List KI} {Q:PEx→Fr→Prop}
    (hn:∀ t o0 o1,look t 3=.int .i64 fin→kQ E ks Q .norm { lvl:=0,tmps:=mk 39 t,heap:=[[o0,o1]],defers:=[] }) :
    ∀ (rest pre:List St) (n:Int) (o0 o1:Option Ob) (t:List (Nat × PV)),l=pre++rest→(n+nnS rest=fin+rest.length)→(0≤n)→(n+szS rest≤4294967296) →
      look t 3=.int .i64 n→look t 10=.vs f (sts l)→look t 11=.int .i64 l.length→look t 12=.int .i64 pre.length →
      kQ E (.code p144l0::.blk 0::ks) Q .norm { lvl:=0,tmps:=mk 39 t,heap:=[[o0,o1]],defers:=[] }:=by
  intro rest
  have pu144:pureB E 144=true:=rfl
  induction rest with
  | nil =>
    intro pre n o0 o1 t hl hi0 hi1 hi2 h3 h10 h11 h12
    have e:l.length=pre.length:=by rw [hl];simp
    refine loopK' (c:=p144l0) rfl ?_
    repeat' first|(with_reducible first|refine cS ?_ ?_|refine oS ?_ ?_|refine dS ?_ ?_)<;>intro _|((with_reducible refine kk ?_ ?_);·rfl)|simp -implicitDefEqProofs(disch:=first|omega|assumption)only[push_cast,simprocAttr,Zd,Zc,Ze,Zb,h3,h10,h11,h12,e,Y8]|(with_reducible first|refine cB ?_ ?_|refine oB ?_ ?_|refine dB ?_ ?_)<;>intro _
    exact hn _ _ _ (by simp only [nnS,List.length_nil] at hi0;rw [show fin=n from by omega];simp [look,Za,h3])
  | cons s r ih =>
    intro pre n o0 o1 t hl hi0 hi1 hi2 h3 h10 h11 h12
    have e:l.length=pre.length+r.length+1:=by rw [hl];simp;omega
    have hg:(sts l)[pre.length]?=some (.agg [.int .i64 s.kind,.str s.name,.int .i64 s.ty.kind,.str s.ty.name,.int .i64 s.target.kind,.int .i64 s.target.op,.str s.target.name,.int .i64 s.target.value,.vs s.target.fl (exs s.target.args),.int .i64 s.value.kind,.int .i64 s.value.op,.str s.value.name,.int .i64 s.value.value,.vs s.value.fl (exs s.value.args),.int .i64 s.count,.vs s.fb (sts s.body),.vs s.fe (sts s.els)]):=by rw [hl,Xq,← s.c17];exact Yd _ _ _ _
    obtain ⟨hsz,q1,q2⟩:=hrec s (by rw [hl];simp)
    have b0:=s.nn_bd
    have b1:=nnS_bd s.body
    have b2:=nnS_bd s.els
    have b3:=s.cs_sz
    have b4:=sizeL_len s.cs
    have b5:=nnL_bd s.cs
    have b6:=s.nn_eq
    have b7:=s.sz_eq
    simp only [szS] at hi2
    simp only [nnS,List.length_cons] at hi0
    refine loopK' (c:=p144l0) rfl ?_
    repeat' first|(with_reducible first|refine cS ?_ ?_|refine oS ?_ ?_|refine dS ?_ ?_)<;>intro _|((with_reducible refine kk ?_ ?_);·rfl)|simp -implicitDefEqProofs(disch:=first|omega|assumption)only[push_cast,simprocAttr,Zd,Zc,Ze,Zb,h3,h10,h11,h12,hg,Y8,q1,q2,cnt_ok,Yr]|(with_reducible first|refine cB ?_ ?_|refine oB ?_ ?_|refine dB ?_ ?_)<;>intro _
    with_reducible refine nd1_loop s.cs (fc:=cflF s.kind) (by omega) (fun a ha=>Nat.le_trans (Ex.size_mem ha) (by omega)) (n+(nnS s.body+nnS s.els)+nnL s.cs) (v10:=.vs f (sts l)) (v11:=.int .i64 l.length) (v12:=.int .i64 pre.length) ?_ s.cs [] (n+(nnS s.body+nnS s.els)) _ _ rfl rfl (by omega) (by omega) ?_ ?_ ?_ ?_ ?_ ?_ ?_
    all_goals first
      | (simp [look,Za,h10,h11,h12];done)
      | skip
    intro t' o1' k3 k10 k11 k12
    repeat' first|(with_reducible first|refine cS ?_ ?_|refine oS ?_ ?_|refine dS ?_ ?_)<;>intro _|((with_reducible refine kk ?_ ?_);·rfl)|simp -implicitDefEqProofs(disch:=first|omega|assumption)only[push_cast,simprocAttr,Zd,Zc,Ze,Zb,k3,k10,k11,k12]|(with_reducible first|refine cB ?_ ?_|refine oB ?_ ?_|refine dB ?_ ?_)<;>intro _
    refine ih (pre++[s]) (n+(nnS s.body+nnS s.els)+nnL s.cs) _ _ _ (by simp [hl]) (by omega) (by omega) (by omega) (by simp [look,Za,k3]) (by simp [look,Za,k10]) (by simp [look,Za,k11]) (by simp [look,Za])
theorem nod_ok:∀ (n:Nat) (l:List St),szS l≤n→szS l≤1048576→∀ (f:Fl) (h:Heap),doCall E (callR E) 144 [.vs f (sts l)] h=some (.int .i64 (nnS l),h):=by
  intro n
  have go:∀ (l:List St),szS l≤1048576→(∀ s∈l,∀ b,b=s.body∨b=s.els→∀ f h,doCall E (callR E) 144 [.vs f (sts b)] h=some (.int .i64 (nnS b),h))→∀ (f:Fl) (h:Heap),doCall E (callR E) 144 [.vs f (sts l)] h=some (.int .i64 (nnS l),h):=by
    intro l hb hrec f h
    have hlen:=szS_len l
    refine Zg (pf:=p144) rfl rfl rfl rfl (by simp [PV.lowL,PV.low,Yr]) (by simp [PV.low,PV.lowL,Yr]) ?_ h
    show kQ E _ (endQ [⟨2,none⟩] _) .norm { lvl:=0,tmps:=mk 39 [(0,.vs f (sts l))],heap:=[[none,none]],defers:=[] }
    repeat' first|(with_reducible first|refine cS ?_ ?_|refine oS ?_ ?_|refine dS ?_ ?_)<;>intro _|((with_reducible refine kk ?_ ?_);·rfl)|simp -implicitDefEqProofs(disch:=first|omega|assumption)only[push_cast,simprocAttr,Zd,Zc,Ze,Zb,Y8]|(with_reducible first|refine cB ?_ ?_|refine oB ?_ ?_|refine dB ?_ ?_)<;>intro _
    with_reducible refine nd0_loop l (f:=f) (by omega) ?_ (nnS l) ?_ l [] l.length _ _ _ rfl (by omega) (by omega) (by omega) (by simp [look,Za]) (by simp [look,Za]) (by simp [look,Za]) (by simp [look,Za])
    · intro s hs
      have:=Xc hs
      exact ⟨by omega,fun h=>hrec s hs _ (.inl rfl) _ h,fun h=>hrec s hs _ (.inr rfl) _ h⟩
    · intro t o0 o1 h3
      repeat' first|(with_reducible first|refine cS ?_ ?_|refine oS ?_ ?_|refine dS ?_ ?_)<;>intro _|((with_reducible refine kk ?_ ?_);·rfl)|simp -implicitDefEqProofs(disch:=first|omega|assumption)only[push_cast,simprocAttr,Zd,Zc,Ze,Zb,h3]|(with_reducible first|refine cB ?_ ?_|refine oB ?_ ?_|refine dB ?_ ?_)<;>intro _
  induction n with
  | zero =>
    intro l hn hb
    refine go l hb ?_
    intro s hs
    have:=Xc hs
    have:=s.sz_eq
    omega
  | succ n ih =>
    intro l hn hb
    refine go l hb ?_
    intro s hs b hbb f h
    have h1:=Xc hs
    have h2:=s.sz_eq
    rcases hbb with e|e
    · subst e;exact ih _ (by omega) (by omega) f h
    · subst e;exact ih _ (by omega) (by omega) f h
end
section
structure Mod.OkS (m:Mod):Prop where
  mn:sizeS m.mainS≤1048576
  fb:∀ f∈m.fs,sizeS f.bodyS≤1048576
theorem Fun'.v10 (f:Fun'):f.v=.agg [.str f.name,.vs f.fl (flds f.ps),.int .i64 f.res.kind,.str f.res.name,.vs f.fb (sts f.bodyS),.int .i64 f.retE.kind,.int .i64 f.retE.op,.str f.retE.name,.int .i64 f.retE.value,.vs f.retE.fl (exs f.retE.args)]:=by
  show PV.agg (_::_::_::_::.vs f.fb f.body::f.ret)=_
  rw [show f.ret=f.retE.c from rfl,f.retE.c_eq];rfl
end
end Go.VI.S
