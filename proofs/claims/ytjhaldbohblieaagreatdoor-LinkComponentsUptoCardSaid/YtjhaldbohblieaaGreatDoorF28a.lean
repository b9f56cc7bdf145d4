/- Chapter 28: types, fields, structs, as VI's values; what the simple functions say. -/
import Derived.Test.YtjhaldbohblieaaGreatDoorP28
import Derived.Test.YtjhaldbohblieaaGreatDoorVC
import Derived.KernelRfl
set_option maxRecDepth 100000
set_option linter.unusedSimpArgs false
namespace Go.VI.S
open Go.VI
abbrev Str:=List UInt8
def strs (l:List Str):List PV:=l.map PV.str
def wordsL:List Str:=[[102,105,120,101,100],[104,97,108,102],[105,110,116],[98,111,111,108],[118,101,99,50],[118,101,99,51],[118,101,99,52]]
def builtinsL:List Str:=[[109,105,110],[109,97,120],[99,108,97,109,112],[97,98,115],[102,108,111,111,114],[102,114,97,99,116],[115,113,114,116],[100,111,116],[109,105,120],[115,97,109,112,108,101],[102,101,116,99,104],[108,111,97,100],[100,100,120],[100,100,121]]
def otherL:List Str:=[[115,104,97,100,101,114],[118,101,114,116,101,120],[103,101,111,109,101,116,114,121],[102,114,97,103,109,101,110,116],[115,116,114,117,99,116],[117,110,105,102,111,114,109],[116,101,120,116,117,114,101],[98,117,102,102,101,114],[105,110],[111,117,116],[102,110],[114,101,116,117,114,110],[109,97,105,110],[108,101,116],[105,102],[101,108,115,101],[108,111,111,112],[98,114,101,97,107],[99,111,110,116,105,110,117,101],[100,105,115,99,97,114,100],[101,109,105,116],[99,117,116],[116,114,117,101],[102,97,108,115,101]]
def globL:Nat→List Str
  | 0=>otherL
  | 1=>builtinsL
  | 2=>wordsL
  | _=>wordsL
noncomputable def E:Env:=⟨pf,fun i=>.ip [.vs .any (strs (globL i))]⟩
theorem Yu {a b:Str}:(a==b)=decide (a=b):=by
  by_cases h:a=b
  · simp [h]
  · simp [h]
structure Ty where
  kind:Int
  name:Str
  deriving DecidableEq
abbrev Ty.v (t:Ty):PV:=.agg [.int .i64 t.kind,.str t.name]
structure Fld where
  name:Str
  ty:Ty
abbrev Fld.v (f:Fld):PV:=.agg [.str f.name,.int .i64 f.ty.kind,.str f.ty.name]
def flds (l:List Fld):List PV:=l.map Fld.v
structure Sct where
  name:Str
  fl:Fl
  fs:List Fld
abbrev Sct.v (s:Sct):PV:=.agg [.str s.name,.vs s.fl (flds s.fs)]
def scts (l:List Sct):List PV:=l.map Sct.v
theorem low_app (a b:List PV) (L:Nat):PV.lowL L (a++b)=(PV.lowL L a&&PV.lowL L b):=by
  induction a with
  | nil=>simp [PV.lowL]
  | cons x a ih=>simp [PV.lowL,ih,Bool.and_assoc]
theorem low_map {α:Type} (f:α→PV) (hf:∀ a,(f a).low 0=true):∀ l:List α,PV.lowL 0 (l.map f)=true
  | []=>rfl
  | a::l=>by simp [PV.lowL,hf,low_map f hf l]
theorem same_map {α:Type} (f:α→PV) (hf:∀ a,PV.same (f a) (f a)=true):∀ l:List α,PV.sameL (l.map f) (l.map f)=true
  | []=>rfl
  | a::l=>by simp [PV.sameL,hf,same_map f hf l]
theorem same_app:∀ (a b:List PV),PV.sameL a a=true→PV.sameL b b=true→PV.sameL (a++b) (a++b)=true
  | [],b,_,h=>by simpa using h
  | x::a,b,h,h2=>by simp [PV.sameL] at h ⊢;exact ⟨h.1,same_app a b h.2 h2⟩
inductive Ex where
  | mk (kind op:Int) (name:Str) (value:Int) (fl:Fl) (args:List Ex)
def Ex.kind:Ex→Int|.mk k _ _ _ _ _=>k
def Ex.op:Ex→Int|.mk _ o _ _ _ _=>o
def Ex.name:Ex→Str|.mk _ _ n _ _ _=>n
def Ex.value:Ex→Int|.mk _ _ _ x _ _=>x
def Ex.fl:Ex→Fl|.mk _ _ _ _ f _=>f
def Ex.args:Ex→List Ex|.mk _ _ _ _ _ a=>a
mutual
def Ex.c:Ex→List PV
  | .mk k o n x fl as=>[.int .i64 k,.int .i64 o,.str n,.int .i64 x,.vs fl (exs as)]
def exs:List Ex→List PV
  | []=>[]
  | e::r=>.agg e.c::exs r
end
theorem exs_map:∀ l:List Ex,exs l=l.map fun e=>.agg e.c
  | []=>by simp [exs]
  | e::r=>by simp [exs,exs_map r]
theorem exs_len {l:List Ex}:(exs l).length=l.length:=by simp [exs_map]
theorem Ex.c_eq (e:Ex):e.c=[.int .i64 e.kind,.int .i64 e.op,.str e.name,.int .i64 e.value,.vs e.fl (exs e.args)]:=by cases e;simp [Ex.c,Ex.kind,Ex.op,Ex.name,Ex.value,Ex.fl,Ex.args]
theorem Ex.c_len (e:Ex):e.c.length=5:=by rw [e.c_eq];rfl
theorem Ex.low (e:Ex):PV.lowL 0 e.c=true:=by rw [e.c_eq];simp [PV.lowL,PV.low]
theorem Zo {l:List Ex}:PV.lowL 0 (exs l)=true:=by rw [exs_map];exact low_map _ (fun e=>by simp [PV.low,e.low]) l
mutual
theorem Ex.same:∀ e:Ex,PV.sameL e.c e.c=true
  | .mk k o n x fl as=>by simp [Ex.c,PV.sameL,PV.same,Yx as]
theorem Yx:∀ l:List Ex,PV.sameL (exs l) (exs l)=true
  | []=>by simp [exs,PV.sameL]
  | e::r=>by simp [exs,PV.sameL,PV.same,Ex.same e,Yx r]
end
inductive St where
  | mk (kind:Int) (name:Str) (ty:Ty) (target value:Ex) (count:Int) (fb:Fl) (body:List St) (fe:Fl) (els:List St)
def St.kind:St→Int|.mk k _ _ _ _ _ _ _ _ _=>k
def St.name:St→Str|.mk _ n _ _ _ _ _ _ _ _=>n
def St.ty:St→Ty|.mk _ _ t _ _ _ _ _ _ _=>t
def St.target:St→Ex|.mk _ _ _ e _ _ _ _ _ _=>e
def St.value:St→Ex|.mk _ _ _ _ e _ _ _ _ _=>e
def St.count:St→Int|.mk _ _ _ _ _ n _ _ _ _=>n
def St.fb:St→Fl|.mk _ _ _ _ _ _ f _ _ _=>f
def St.body:St→List St|.mk _ _ _ _ _ _ _ b _ _=>b
def St.fe:St→Fl|.mk _ _ _ _ _ _ _ _ f _=>f
def St.els:St→List St|.mk _ _ _ _ _ _ _ _ _ b=>b
mutual
def St.c:St→List PV
  | .mk k n t tg v ct fb b fe e=>.int .i64 k::.str n::.int .i64 t.kind::.str t.name::(tg.c++(v.c++[.int .i64 ct,.vs fb (sts b),.vs fe (sts e)]))
def sts:List St→List PV
  | []=>[]
  | s::r=>.agg s.c::sts r
end
theorem sts_map:∀ l:List St,sts l=l.map fun s=>.agg s.c
  | []=>by simp [sts]
  | e::r=>by simp [sts,sts_map r]
theorem Xk {l:List St}:(sts l).length=l.length:=by simp [sts_map]
theorem St.c_eq (s:St):s.c=.int .i64 s.kind::.str s.name::.int .i64 s.ty.kind::.str s.ty.name::(s.target.c++(s.value.c++[.int .i64 s.count,.vs s.fb (sts s.body),.vs s.fe (sts s.els)])):=by
  cases s;simp [St.c,St.kind,St.name,St.ty,St.target,St.value,St.count,St.fb,St.body,St.fe,St.els]
theorem St.low (s:St):PV.lowL 0 s.c=true:=by rw [s.c_eq];simp [PV.lowL,PV.low,low_app,Ex.low]
theorem Yn {l:List St}:PV.lowL 0 (sts l)=true:=by rw [sts_map];exact low_map _ (fun e=>by simp [PV.low,e.low]) l
mutual
theorem St.same:∀ s:St,PV.sameL s.c s.c=true
  | .mk k n t tg v ct fb b fe e=>by
    have h1:PV.sameL [.int .i64 ct,.vs fb (sts b),.vs fe (sts e)] [.int .i64 ct,.vs fb (sts b),.vs fe (sts e)]=true:=by simp [PV.sameL,PV.same,Yh b,Yh e]
    have h2:=same_app _ _ tg.same (same_app _ _ v.same h1)
    simp [St.c,PV.sameL,PV.same,h2]
theorem Yh:∀ l:List St,PV.sameL (sts l) (sts l)=true
  | []=>by simp [sts,PV.sameL]
  | s::r=>by simp [sts,PV.sameL,PV.same,St.same s,Yh r]
end
structure Fun' where
  name:Str
  fl:Fl
  ps:List Fld
  res:Ty
  fb:Fl
  bodyS:List St
  retE:Ex
def Fun'.body (f:Fun'):List PV:=sts f.bodyS
def Fun'.ret (f:Fun'):List PV:=f.retE.c
theorem Fun'.hb (f:Fun'):PV.lowL 0 f.body=true:=Yn
theorem Fun'.hr (f:Fun'):PV.lowL 0 f.ret=true:=f.retE.low
theorem Fun'.hl (f:Fun'):f.ret.length=5:=f.retE.c_len
abbrev Fun'.v (f:Fun'):PV:=.agg (.str f.name::.vs f.fl (flds f.ps)::.int .i64 f.res.kind::.str f.res.name::.vs f.fb f.body::f.ret)
def funs (l:List Fun'):List PV:=l.map Fun'.v
structure Mod where
  stage:Int
  sf:Fl
  ss:List Sct
  uf:Fl
  us:List Fld
  tf:Fl
  ts:List Str
  bf:Fl
  bs:List Str
  nf:Fl
  ins:List Fld
  of:Fl
  outs:List Fld
  ff:Fl
  fs:List Fun'
  mf:Fl
  mainS:List St
def Mod.main (m:Mod):List PV:=sts m.mainS
theorem Mod.hm (m:Mod):PV.lowL 0 m.main=true:=Yn
abbrev Mod.c (m:Mod):List PV:=[.int .i64 m.stage,.vs m.sf (scts m.ss),.vs m.uf (flds m.us),.vs m.tf (strs m.ts),.vs m.bf (strs m.bs),.vs m.nf (flds m.ins),.vs m.of (flds m.outs),.vs m.ff (funs m.fs),.vs m.mf m.main]
structure Mod.Ok (m:Mod):Prop where
  ss:m.ss.length≤1048576
  us:m.us.length≤1048576
  ts:m.ts.length≤1048576
  bs:m.bs.length≤1048576
  ins:m.ins.length≤1048576
  outs:m.outs.length≤1048576
  fs:m.fs.length≤1048576
  sf:∀ s∈m.ss,s.fs.length≤1048576
  pf:∀ f∈m.fs,f.ps.length≤1048576
theorem Yi (l:List Fld):PV.sameL (flds l) (flds l)=true:=same_map _ (fun f=>by simp [PV.same,PV.sameL]) l
theorem Yo (l:List Str):PV.sameL (strs l) (strs l)=true:=same_map _ (fun f=>by simp [PV.same]) l
theorem Yp (l:List Sct):PV.sameL (scts l) (scts l)=true:=same_map _ (fun f=>by simp [PV.same,PV.sameL,Yi]) l
theorem Yq (l:List Fun'):PV.sameL (funs l) (funs l)=true:=same_map _ (fun f=>by
  have:=f.retE.same
  simp [PV.same,PV.sameL,Yi,Fun'.body,Fun'.ret,Yh,this]) l
theorem Yv (m:Mod):PV.sameL m.main m.main=true:=Yh _
theorem Mod.same (m:Mod):PV.sameL m.c m.c=true:=by simp [PV.sameL,PV.same,Yi,Yo,Yp,Yq,Mod.main,Yh]
theorem Fun'.ret_take (f:Fun'):f.ret.take 5=f.ret:=List.take_of_length_le (by rw [f.hl];exact Nat.le_refl _)
theorem Zj {l:List Str}:PV.lowL 0 (strs l)=true:=low_map _ (fun _=>rfl) l
theorem Zi {l:List Fld}:PV.lowL 0 (flds l)=true:=low_map _ (fun _=>rfl) l
theorem Zk {l:List Sct}:PV.lowL 0 (scts l)=true:=low_map _ (fun s=>by simp [PV.low,PV.lowL]) l
theorem Zl {l:List Fun'}:PV.lowL 0 (funs l)=true:=low_map _ (fun s=>by simp [PV.low,PV.lowL,s.hr]) l
theorem strs_len {l:List Str}:(strs l).length=l.length:=by simp [strs]
theorem flds_len {l:List Fld}:(flds l).length=l.length:=by simp [flds]
theorem scts_len {l:List Sct}:(scts l).length=l.length:=by simp [scts]
theorem funs_len {l:List Fun'}:(funs l).length=l.length:=by simp [funs]
attribute [push_cast] qo Zj Zi Zk Zl Zo strs_len flds_len scts_len funs_len exs_len Int.toNat_natCast
def isSc (k:Int):Bool:=decide (1≤k∧k≤4)
def isVc (k:Int):Bool:=decide (5≤k∧k≤7)
theorem sc_ok (k:Int) (n:Str) (h:Heap):doCall E (callR E) 75 [.agg [.int .i64 k,.str n]] h=some (.bool (isSc k),h):=by
  refine Zg (pf:=p75) rfl rfl rfl rfl (by simp [PV.lowL,PV.low]) (by simp [PV.low,PV.lowL]) ?_ h
  show kQ E _ (endQ [⟨2,none⟩] _) .norm { lvl:=0,tmps:=mk 11 [(0,.agg [.int .i64 k,.str n])],heap:=[[]],defers:=[] }
  repeat' first|(with_reducible first|refine cS ?_ ?_|refine oS ?_ ?_|refine dS ?_ ?_)<;>intro _|((with_reducible refine kk ?_ ?_);·rfl)|simp -implicitDefEqProofs(disch:=first|omega|assumption)only[push_cast,simprocAttr,Zd,Zc,Ze,Zb]|(with_reducible first|refine cB ?_ ?_|refine oB ?_ ?_|refine dB ?_ ?_)<;>intro _
  all_goals simp only [isSc,PV.bool.injEq,Bool.false_eq,Bool.true_eq,decide_eq_true_eq,decide_eq_false_iff_not,decide_eq_decide];omega
theorem Y7 (k:Int) (n:Str) (h:Heap):doCall E (callR E) 76 [.agg [.int .i64 k,.str n]] h=some (.bool (isVc k),h):=by
  refine Zg (pf:=p76) rfl rfl rfl rfl (by simp [PV.lowL,PV.low]) (by simp [PV.low,PV.lowL]) ?_ h
  show kQ E _ (endQ [⟨2,none⟩] _) .norm { lvl:=0,tmps:=mk 11 [(0,.agg [.int .i64 k,.str n])],heap:=[[]],defers:=[] }
  repeat' first|(with_reducible first|refine cS ?_ ?_|refine oS ?_ ?_|refine dS ?_ ?_)<;>intro _|((with_reducible refine kk ?_ ?_);·rfl)|simp -implicitDefEqProofs(disch:=first|omega|assumption)only[push_cast,simprocAttr,Zd,Zc,Ze,Zb]|(with_reducible first|refine cB ?_ ?_|refine oB ?_ ?_|refine dB ?_ ?_)<;>intro _
  all_goals simp only [isVc,PV.bool.injEq,Bool.false_eq,Bool.true_eq,decide_eq_true_eq,decide_eq_false_iff_not,decide_eq_decide];omega
def plainF (k:Int):Int:=if 1≤k∧k≤4 then 1 else if 5≤k∧k≤7 then k - 3 else 0
theorem plain_ok (k:Int) (n:Str) (h:Heap):doCall E (callR E) 45 [.agg [.int .i64 k,.str n]] h=some (.int .i64 (plainF k),h):=by
  refine Zg (pf:=p45) rfl rfl rfl rfl (by simp [PV.lowL,PV.low]) (by simp [PV.low,PV.lowL]) ?_ h
  show kQ E _ (endQ [⟨2,none⟩] _) .norm { lvl:=0,tmps:=mk 13 [(0,.agg [.int .i64 k,.str n])],heap:=[[]],defers:=[] }
  repeat' first|(with_reducible first|refine cS ?_ ?_|refine oS ?_ ?_|refine dS ?_ ?_)<;>intro _|((with_reducible refine kk ?_ ?_);·rfl)|simp -implicitDefEqProofs(disch:=first|omega|assumption)only[push_cast,simprocAttr,Zd,Zc,Ze,Zb,sc_ok,Y7,isSc,isVc]|(with_reducible first|refine cB ?_ ?_|refine oB ?_ ?_|refine dB ?_ ?_)<;>intro _
  all_goals (unfold plainF;congr 1;(repeat' split)<;>omega)
theorem Ye (k:Int) (h:Heap):doCall E (callR E) 123 [.int .i64 k] h=some (.agg [.int .i64 k,.str []],h):=by
  refine Zg (pf:=p123) rfl rfl rfl rfl (by simp [PV.lowL,PV.low]) (by simp [PV.low,PV.lowL]) ?_ h
  show kQ E _ (endQ [⟨2,some (some 2)⟩] _) .norm { lvl:=0,tmps:=mk 5 [(0,.int .i64 k)],heap:=[[none]],defers:=[] }
  repeat' first|(with_reducible first|refine cS ?_ ?_|refine oS ?_ ?_|refine dS ?_ ?_)<;>intro _|((with_reducible refine kk ?_ ?_);·rfl)|simp -implicitDefEqProofs(disch:=first|omega|assumption)only[push_cast,simprocAttr,Zd,Zc,Ze,Zb]|(with_reducible first|refine cB ?_ ?_|refine oB ?_ ?_|refine dB ?_ ?_)<;>intro _
def idxG {α:Type} (p:α→Bool):List α→Int→Int
  | [],_ => -1
  | a::r,i=>if p a then i else idxG p r (i+1)
def idxF {α:Type} (p:α→Bool) (l:List α):Int:=idxG p l 0
theorem steq_ok (s:Sct) (nm:Str) (h:Heap):doCall E (callR E) 78 [.agg [.str s.name,.vs s.fl (flds s.fs)],.ip [.str nm]] h=some (.bool (decide (s.name=nm)),h):=by
  refine Zg (pf:=p78) rfl rfl rfl rfl (by simp [PV.lowL,PV.low,Zi]) (by simp [PV.low,PV.lowL,Zi]) ?_ h
  show kQ E _ (endQ [⟨3,none⟩] _) .norm { lvl:=0,tmps:=mk 8 [(0,.agg [.str s.name,.vs s.fl (flds s.fs)]),(1,.ip [.str nm])],heap:=[[]],defers:=[] }
  repeat' first|(with_reducible first|refine cS ?_ ?_|refine oS ?_ ?_|refine dS ?_ ?_)<;>intro _|((with_reducible refine kk ?_ ?_);·rfl)|simp -implicitDefEqProofs(disch:=first|omega|assumption)only[push_cast,simprocAttr,Zd,Zc,Ze,Zb,binS,Yu]|(with_reducible first|refine cB ?_ ?_|refine oB ?_ ?_|refine dB ?_ ?_)<;>intro _
theorem fneq_ok (s:Fun') (nm:Str) (h:Heap):doCall E (callR E) 171 [.agg (.str s.name::.vs s.fl (flds s.ps)::.int .i64 s.res.kind::.str s.res.name::.vs s.fb s.body::s.ret),.ip [.str nm]] h=some (.bool (decide (s.name=nm)),h):=by
  have hr:=s.hr
  have hl:=s.hl
  refine Zg (pf:=p171) rfl rfl rfl rfl (by simp [PV.lowL,PV.low,Zi,hr]) (by simp [PV.low,PV.lowL,Zi,hr]) ?_ h
  show kQ E _ (endQ [⟨3,none⟩] _) .norm { lvl:=0,tmps:=mk 8 [(0,.agg (.str s.name::.vs s.fl (flds s.ps)::.int .i64 s.res.kind::.str s.res.name::.vs s.fb s.body::s.ret)),(1,.ip [.str nm])],heap:=[[]],defers:=[] }
  repeat' first|(with_reducible first|refine cS ?_ ?_|refine oS ?_ ?_|refine dS ?_ ?_)<;>intro _|((with_reducible refine kk ?_ ?_);·rfl)|simp -implicitDefEqProofs(disch:=first|omega|assumption)only[push_cast,simprocAttr,Zd,Zc,Ze,Zb,binS,Yu,hr,hl]|(with_reducible first|refine cB ?_ ?_|refine oB ?_ ?_|refine dB ?_ ?_)<;>intro _
theorem fdeq_ok (f:Fld) (nm:Str) (h:Heap):doCall E (callR E) 160 [.agg [.str f.name,.int .i64 f.ty.kind,.str f.ty.name],.ip [.str nm]] h=some (.bool (decide (f.name=nm)),h):=by
  refine Zg (pf:=p160) rfl rfl rfl rfl (by simp [PV.lowL,PV.low]) (by simp [PV.low,PV.lowL]) ?_ h
  show kQ E _ (endQ [⟨3,none⟩] _) .norm { lvl:=0,tmps:=mk 8 [(0,.agg [.str f.name,.int .i64 f.ty.kind,.str f.ty.name]),(1,.ip [.str nm])],heap:=[[]],defers:=[] }
  repeat' first|(with_reducible first|refine cS ?_ ?_|refine oS ?_ ?_|refine dS ?_ ?_)<;>intro _|((with_reducible refine kk ?_ ?_);·rfl)|simp -implicitDefEqProofs(disch:=first|omega|assumption)only[push_cast,simprocAttr,Zd,Zc,Ze,Zb,binS,Yu]|(with_reducible first|refine cB ?_ ?_|refine oB ?_ ?_|refine dB ?_ ?_)<;>intro _
end Go.VI.S
