/- Chapter 53: triangles as VI's values; numbers, edges. -/
import Derived.Test.YtdbhbceogacppaaGreatP53
import Derived.Test.YtdbhbceogacppaaGreatVC
import Derived.KernelRfl
set_option maxRecDepth 100000
set_option linter.unusedSimpArgs false
set_option linter.unusedVariables false
namespace Go.VI.S
open Go.VI
noncomputable def E:Env:=⟨pf,fun _=>.junk⟩
def ints (l:List Int):List PV:=l.map fun n=>.int .i64 n
theorem ints_low {l:List Int}:PV.lowL 0 (ints l)=true:=by
  induction l with
  | nil=>rfl
  | cons a l ih=>simpa [ints,PV.lowL,PV.low] using ih
theorem Yf {l:List Int}:(ints l).length=l.length:=by simp [ints]
theorem ints_same:∀ l:List Int,PV.sameL (ints l) (ints l)=true
  | []=>rfl
  | a::l=>by simpa [ints,PV.sameL,PV.same] using ints_same l
structure Vx where
  x:Int
  y:Int
  z:Int
  w:Int
  fl:Fl
  l:List Int
abbrev Vx.c (v:Vx):List PV:=[.int .i64 v.x,.int .i64 v.y,.int .i64 v.z,.int .i64 v.w,.vs v.fl (ints v.l)]
structure Tri where
  a:Vx
  b:Vx
  d:Vx
  prim:Int
  front:Bool
abbrev Tri.c3 (t:Tri):List PV:=[.int .i64 t.a.x,.int .i64 t.a.y,.int .i64 t.a.z,.int .i64 t.a.w,.vs t.a.fl (ints t.a.l),.int .i64 t.b.x,.int .i64 t.b.y,.int .i64 t.b.z,.int .i64 t.b.w,.vs t.b.fl (ints t.b.l),.int .i64 t.d.x,.int .i64 t.d.y,.int .i64 t.d.z,.int .i64 t.d.w,.vs t.d.fl (ints t.d.l)]
abbrev Tri.c (t:Tri):List PV:=[.int .i64 t.a.x,.int .i64 t.a.y,.int .i64 t.a.z,.int .i64 t.a.w,.vs t.a.fl (ints t.a.l),.int .i64 t.b.x,.int .i64 t.b.y,.int .i64 t.b.z,.int .i64 t.b.w,.vs t.b.fl (ints t.b.l),.int .i64 t.d.x,.int .i64 t.d.y,.int .i64 t.d.z,.int .i64 t.d.w,.vs t.d.fl (ints t.d.l),.int .i64 t.prim,.bool t.front]
attribute [push_cast] qo ints_same ints_low Yf Int.toNat_natCast
def RetI (n:Nat) (args:List PV):Prop:=∃ r:Int,∀ h,doCall E (callR E) n args h=some (.int .i64 r,h)
def RetB (n:Nat) (args:List PV):Prop:=∃ r:Bool,∀ h,doCall E (callR E) n args h=some (.bool r,h)
theorem lim_ex (x:Int):RetI 109 [.int .i64 x]:=by
  apply Exists.intro
  intro h
  refine Zd (pf:=p109) rfl rfl rfl rfl (by simp [PV.lowL,PV.low]) (by simp [PV.low,PV.lowL]) ?_ h
  show kQ E _ (endQ [⟨2,none⟩] _) .norm { lvl:=0,tmps:=mk 6 [(0,.int .i64 x)],heap:=[[]],defers:=[] }
  repeat' first|(with_reducible first|refine cS ?_ ?_|refine oS ?_ ?_|refine dS ?_ ?_)<;>intro _|((with_reducible refine kk ?_ ?_);·rfl)|simp -implicitDefEqProofs(disch:=first|omega|assumption)only[push_cast,simprocAttr,Zf,Ze,Zi,Zg]|(with_reducible first|refine cB ?_ ?_|refine oB ?_ ?_|refine dB ?_ ?_)<;>intro _
  exact rfl
noncomputable def limF (x:Int):Int:=(lim_ex x).choose
theorem lim_ok (x:Int) (h:Heap):doCall E (callR E) 109 [.int .i64 x] h=some (.int .i64 (limF x),h):=(lim_ex x).choose_spec h
theorem fun_ex (a b c d e f:Int):RetI 104 [.int .i64 a,.int .i64 b,.int .i64 c,.int .i64 d,.int .i64 e,.int .i64 f]:=by
  apply Exists.intro
  intro h
  refine Zd (pf:=p104) rfl rfl rfl rfl (by simp [PV.lowL,PV.low]) (by simp [PV.low,PV.lowL]) ?_ h
  show kQ E _ (endQ [⟨12,none⟩] _) .norm { lvl:=0,tmps:=mk 38 [(0,.int .i64 a),(1,.int .i64 b),(2,.int .i64 c),(3,.int .i64 d),(4,.int .i64 e),(5,.int .i64 f)],heap:=[[]],defers:=[] }
  repeat' first|(with_reducible first|refine cS ?_ ?_|refine oS ?_ ?_|refine dS ?_ ?_)<;>intro _|((with_reducible refine kk ?_ ?_);·rfl)|simp -implicitDefEqProofs(disch:=first|omega|assumption)only[push_cast,simprocAttr,Zf,Ze,Zi,Zg,lim_ok]|(with_reducible first|refine cB ?_ ?_|refine oB ?_ ?_|refine dB ?_ ?_)<;>intro _
  exact rfl
noncomputable def funF (a b c d e f:Int):Int:=(fun_ex a b c d e f).choose
theorem fun_ok (a b c d e f:Int) (h:Heap):doCall E (callR E) 104 [.int .i64 a,.int .i64 b,.int .i64 c,.int .i64 d,.int .i64 e,.int .i64 f] h=some (.int .i64 (funF a b c d e f),h):=(fun_ex a b c d e f).choose_spec h
theorem tl_ex (a b c d:Int):RetB 105 [.int .i64 a,.int .i64 b,.int .i64 c,.int .i64 d]:=by
  by_cases h1:IntKind.i64.wrap (limF d - limF b)<0
  · apply Exists.intro
    intro h
    refine Zd (pf:=p105) rfl rfl rfl rfl (by simp [PV.lowL,PV.low]) (by simp [PV.low,PV.lowL]) ?_ h
    show kQ E _ (endQ [⟨8,none⟩] _) .norm { lvl:=0,tmps:=mk 31 [(0,.int .i64 a),(1,.int .i64 b),(2,.int .i64 c),(3,.int .i64 d)],heap:=[[]],defers:=[] }
    repeat' first|(with_reducible first|refine cS ?_ ?_|refine oS ?_ ?_|refine dS ?_ ?_)<;>intro _|((with_reducible refine kk ?_ ?_);·rfl)|simp -implicitDefEqProofs(disch:=first|omega|assumption)only[push_cast,simprocAttr,Zf,Ze,Zi,Zg,lim_ok,h1]|(with_reducible first|refine cB ?_ ?_|refine oB ?_ ?_|refine dB ?_ ?_)<;>intro _
    exact rfl
  · by_cases h2:IntKind.i64.wrap (limF d - limF b)=0
    · apply Exists.intro
      intro h
      refine Zd (pf:=p105) rfl rfl rfl rfl (by simp [PV.lowL,PV.low]) (by simp [PV.low,PV.lowL]) ?_ h
      show kQ E _ (endQ [⟨8,none⟩] _) .norm { lvl:=0,tmps:=mk 31 [(0,.int .i64 a),(1,.int .i64 b),(2,.int .i64 c),(3,.int .i64 d)],heap:=[[]],defers:=[] }
      repeat' first|(with_reducible first|refine cS ?_ ?_|refine oS ?_ ?_|refine dS ?_ ?_)<;>intro _|((with_reducible refine kk ?_ ?_);·rfl)|simp -implicitDefEqProofs(disch:=first|omega|assumption)only[push_cast,simprocAttr,Zf,Ze,Zi,Zg,lim_ok,h1,h2]|(with_reducible first|refine cB ?_ ?_|refine oB ?_ ?_|refine dB ?_ ?_)<;>intro _
      exact rfl
    · apply Exists.intro
      intro h
      refine Zd (pf:=p105) rfl rfl rfl rfl (by simp [PV.lowL,PV.low]) (by simp [PV.low,PV.lowL]) ?_ h
      show kQ E _ (endQ [⟨8,none⟩] _) .norm { lvl:=0,tmps:=mk 31 [(0,.int .i64 a),(1,.int .i64 b),(2,.int .i64 c),(3,.int .i64 d)],heap:=[[]],defers:=[] }
      repeat' first|(with_reducible first|refine cS ?_ ?_|refine oS ?_ ?_|refine dS ?_ ?_)<;>intro _|((with_reducible refine kk ?_ ?_);·rfl)|simp -implicitDefEqProofs(disch:=first|omega|assumption)only[push_cast,simprocAttr,Zf,Ze,Zi,Zg,lim_ok,h1,h2]|(with_reducible first|refine cB ?_ ?_|refine oB ?_ ?_|refine dB ?_ ?_)<;>intro _
      exact rfl
noncomputable def tlF (a b c d:Int):Bool:=(tl_ex a b c d).choose
theorem tl_ok (a b c d:Int) (h:Heap):doCall E (callR E) 105 [.int .i64 a,.int .i64 b,.int .i64 c,.int .i64 d] h=some (.bool (tlF a b c d),h):=(tl_ex a b c d).choose_spec h
theorem acc_ex (a b c d e f:Int):RetB 81 [.int .i64 a,.int .i64 b,.int .i64 c,.int .i64 d,.int .i64 e,.int .i64 f]:=by
  by_cases h1:0<funF a b c d e f
  · apply Exists.intro
    intro h
    refine Zd (pf:=p81) rfl rfl rfl rfl (by simp [PV.lowL,PV.low]) (by simp [PV.low,PV.lowL]) ?_ h
    show kQ E _ (endQ [⟨12,none⟩] _) .norm { lvl:=0,tmps:=mk 34 [(0,.int .i64 a),(1,.int .i64 b),(2,.int .i64 c),(3,.int .i64 d),(4,.int .i64 e),(5,.int .i64 f)],heap:=[[]],defers:=[] }
    repeat' first|(with_reducible first|refine cS ?_ ?_|refine oS ?_ ?_|refine dS ?_ ?_)<;>intro _|((with_reducible refine kk ?_ ?_);·rfl)|simp -implicitDefEqProofs(disch:=first|omega|assumption)only[push_cast,simprocAttr,Zf,Ze,Zi,Zg,fun_ok,tl_ok,gt_iff_lt,h1]|(with_reducible first|refine cB ?_ ?_|refine oB ?_ ?_|refine dB ?_ ?_)<;>intro _
    exact rfl
  · by_cases h2:funF a b c d e f=0
    · apply Exists.intro
      intro h
      refine Zd (pf:=p81) rfl rfl rfl rfl (by simp [PV.lowL,PV.low]) (by simp [PV.low,PV.lowL]) ?_ h
      show kQ E _ (endQ [⟨12,none⟩] _) .norm { lvl:=0,tmps:=mk 34 [(0,.int .i64 a),(1,.int .i64 b),(2,.int .i64 c),(3,.int .i64 d),(4,.int .i64 e),(5,.int .i64 f)],heap:=[[]],defers:=[] }
      repeat' first|(with_reducible first|refine cS ?_ ?_|refine oS ?_ ?_|refine dS ?_ ?_)<;>intro _|((with_reducible refine kk ?_ ?_);·rfl)|simp -implicitDefEqProofs(disch:=first|omega|assumption)only[push_cast,simprocAttr,Zf,Ze,Zi,Zg,fun_ok,tl_ok,gt_iff_lt,h1,h2]|(with_reducible first|refine cB ?_ ?_|refine oB ?_ ?_|refine dB ?_ ?_)<;>intro _
      exact rfl
    · apply Exists.intro
      intro h
      refine Zd (pf:=p81) rfl rfl rfl rfl (by simp [PV.lowL,PV.low]) (by simp [PV.low,PV.lowL]) ?_ h
      show kQ E _ (endQ [⟨12,none⟩] _) .norm { lvl:=0,tmps:=mk 34 [(0,.int .i64 a),(1,.int .i64 b),(2,.int .i64 c),(3,.int .i64 d),(4,.int .i64 e),(5,.int .i64 f)],heap:=[[]],defers:=[] }
      repeat' first|(with_reducible first|refine cS ?_ ?_|refine oS ?_ ?_|refine dS ?_ ?_)<;>intro _|((with_reducible refine kk ?_ ?_);·rfl)|simp -implicitDefEqProofs(disch:=first|omega|assumption)only[push_cast,simprocAttr,Zf,Ze,Zi,Zg,fun_ok,tl_ok,gt_iff_lt,h1,h2]|(with_reducible first|refine cB ?_ ?_|refine oB ?_ ?_|refine dB ?_ ?_)<;>intro _
      exact rfl
noncomputable def accF (a b c d e f:Int):Bool:=(acc_ex a b c d e f).choose
theorem acc_ok (a b c d e f:Int) (h:Heap):doCall E (callR E) 81 [.int .i64 a,.int .i64 b,.int .i64 c,.int .i64 d,.int .i64 e,.int .i64 f] h=some (.bool (accF a b c d e f),h):=(acc_ex a b c d e f).choose_spec h
def inV (v:Vx):Bool:=!(decide (v.x<0)||(decide (v.x>16384)||(decide (v.y<0)||decide (v.y>16384))))
def inF (t:Tri):Bool:=inV t.a&&(inV t.b&&inV t.d)
theorem in_ok (t:Tri) (h:Heap):doCall E (callR E) 16 [.agg t.c3] h=some (.bool (inF t),h):=by
  refine Zd (pf:=p16) rfl rfl rfl rfl (by simp [PV.lowL,PV.low]) (by simp [PV.low,PV.lowL]) ?_ h
  show kQ E _ (endQ [⟨2,none⟩] _) .norm { lvl:=0,tmps:=mk 28 [(0,.agg t.c3)],heap:=[[none]],defers:=[] }
  repeat' first|(with_reducible first|refine cS ?_ ?_|refine oS ?_ ?_|refine dS ?_ ?_)<;>intro _|((with_reducible refine kk ?_ ?_);·rfl)|simp -implicitDefEqProofs(disch:=first|omega|assumption)only[push_cast,simprocAttr,Zf,Ze,Zi,Zg]|(with_reducible first|refine cB ?_ ?_|refine oB ?_ ?_|refine dB ?_ ?_)<;>intro _|refine loopK' (c:=p16l0) rfl ?_
  all_goals simp_all [inF,inV]
theorem area_ex (t:Tri):RetI 17 [.agg t.c3]:=by
  cases h1:inF t
  all_goals
    apply Exists.intro
    intro h
    refine Zd (pf:=p17) rfl rfl rfl rfl (by simp [PV.lowL,PV.low]) (by simp [PV.low,PV.lowL]) ?_ h
    show kQ E _ (endQ [⟨2,none⟩] _) .norm { lvl:=0,tmps:=mk 38 [(0,.agg t.c3)],heap:=[[none,none,none]],defers:=[] }
    repeat' first|(with_reducible first|refine cS ?_ ?_|refine oS ?_ ?_|refine dS ?_ ?_)<;>intro _|((with_reducible refine kk ?_ ?_);·rfl)|simp -implicitDefEqProofs(disch:=first|omega|assumption)only[push_cast,simprocAttr,Zf,Ze,Zi,Zg,in_ok,h1,stabG,stabS,Zv,Z5,Zu,Zp,Zs,Z3,Z4,Zt,Zq,Zn]|(with_reducible first|refine cB ?_ ?_|refine oB ?_ ?_|refine dB ?_ ?_)<;>intro _|with_reducible first|refine Zw ?_ ?_|refine Zx (by decide) ?_|refine Zy (by decide) ?_ ?_|exact Zz|refine Zr ?_|refine Zo ?_
    exact rfl
noncomputable def areaF (t:Tri):Int:=(area_ex t).choose
theorem area_ok (t:Tri) (h:Heap):doCall E (callR E) 17 [.agg t.c3] h=some (.int .i64 (areaF t),h):=(area_ex t).choose_spec h
noncomputable def vaF (t:Tri):Bool:=inF t&&decide (areaF t>0)
theorem va_ok (t:Tri) (h:Heap):doCall E (callR E) 7 [.agg t.c] h=some (.bool (vaF t),h):=by
  refine Zd (pf:=p7) rfl rfl rfl rfl (by simp [PV.lowL,PV.low]) (by simp [PV.low,PV.lowL]) ?_ h
  show kQ E _ (endQ [⟨2,none⟩] _) .norm { lvl:=0,tmps:=mk 12 [(0,.agg t.c)],heap:=[[]],defers:=[] }
  repeat' first|(with_reducible first|refine cS ?_ ?_|refine oS ?_ ?_|refine dS ?_ ?_)<;>intro _|((with_reducible refine kk ?_ ?_);·rfl)|simp -implicitDefEqProofs(disch:=first|omega|assumption)only[push_cast,simprocAttr,Zf,Ze,Zi,Zg,in_ok,area_ok]|(with_reducible first|refine cB ?_ ?_|refine oB ?_ ?_|refine dB ?_ ?_)<;>intro _
  all_goals simp_all [vaF]
theorem cov_ex (t:Tri) (x y:Int):RetB 51 [.agg t.c,.int .i64 x,.int .i64 y]:=by
  cases h1:vaF t
  · apply Exists.intro
    intro h
    refine Zd (pf:=p51) rfl rfl rfl rfl (by simp [PV.lowL,PV.low]) (by simp [PV.low,PV.lowL]) ?_ h
    show kQ E _ (endQ [⟨6,none⟩] _) .norm { lvl:=0,tmps:=mk 39 [(0,.agg t.c),(1,.int .i64 x),(2,.int .i64 y)],heap:=[[none,none]],defers:=[] }
    repeat' first|(with_reducible first|refine cS ?_ ?_|refine oS ?_ ?_|refine dS ?_ ?_)<;>intro _|((with_reducible refine kk ?_ ?_);·rfl)|simp -implicitDefEqProofs(disch:=first|omega|assumption)only[push_cast,simprocAttr,Zf,Ze,Zi,Zg,va_ok,h1]|(with_reducible first|refine cB ?_ ?_|refine oB ?_ ?_|refine dB ?_ ?_)<;>intro _
    exact rfl
  · cases h2:accF t.a.x t.a.y t.b.x t.b.y x y
    all_goals cases h3:accF t.b.x t.b.y t.d.x t.d.y x y
    all_goals cases h4:accF t.d.x t.d.y t.a.x t.a.y x y
    all_goals
      apply Exists.intro
      intro h
      refine Zd (pf:=p51) rfl rfl rfl rfl (by simp [PV.lowL,PV.low]) (by simp [PV.low,PV.lowL]) ?_ h
      show kQ E _ (endQ [⟨6,none⟩] _) .norm { lvl:=0,tmps:=mk 39 [(0,.agg t.c),(1,.int .i64 x),(2,.int .i64 y)],heap:=[[none,none]],defers:=[] }
      repeat' first|(with_reducible first|refine cS ?_ ?_|refine oS ?_ ?_|refine dS ?_ ?_)<;>intro _|((with_reducible refine kk ?_ ?_);·rfl)|simp -implicitDefEqProofs(disch:=first|omega|assumption)only[push_cast,simprocAttr,Zf,Ze,Zi,Zg,va_ok,h1,acc_ok,h2,h3,h4,stabG,stabS,Zv,Z5,Zu,Zp,Zs,Z3,Z4,Zt,Zq,Zn]|(with_reducible first|refine cB ?_ ?_|refine oB ?_ ?_|refine dB ?_ ?_)<;>intro _|with_reducible first|refine Zw ?_ ?_|refine Zx (by decide) ?_|refine Zy (by decide) ?_ ?_|exact Zz|refine Zr ?_|refine Zo ?_|refine loopK' (c:=p51l0) rfl ?_
      exact rfl
noncomputable def covF (t:Tri) (x y:Int):Bool:=(cov_ex t x y).choose
theorem cov_ok (t:Tri) (x y:Int) (h:Heap):doCall E (callR E) 51 [.agg t.c,.int .i64 x,.int .i64 y] h=some (.bool (covF t x y),h):=(cov_ex t x y).choose_spec h
end Go.VI.S
