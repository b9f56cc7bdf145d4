/- Chapter 53: fixed-point numbers, weights, depths. -/
import Derived.Test.YtdbhbceogacppaaGreatF53a
set_option maxRecDepth 100000
set_option linter.unusedSimpArgs false
set_option linter.unusedVariables false
namespace Go.VI.S
open Go.VI
theorem clamp_ex (a b c:Int):RetI 34 [.int .i64 a,.int .i64 b,.int .i64 c]:=by
  apply Exists.intro
  intro h
  refine Zd (pf:=p34) rfl rfl rfl rfl (by simp [PV.lowL,PV.low]) (by simp [PV.low,PV.lowL]) ?_ h
  show kQ E _ (endQ [⟨6,none⟩] _) .norm { lvl:=0,tmps:=mk 12 [(0,.int .i64 a),(1,.int .i64 b),(2,.int .i64 c)],heap:=[[]],defers:=[] }
  repeat' first|(with_reducible first|refine cS ?_ ?_|refine oS ?_ ?_|refine dS ?_ ?_)<;>intro _|((with_reducible refine kk ?_ ?_);·rfl)|simp -implicitDefEqProofs(disch:=first|omega|assumption)only[push_cast,simprocAttr,Zf,Ze,Zi,Zg]|(with_reducible first|refine cB ?_ ?_|refine oB ?_ ?_|refine dB ?_ ?_)<;>intro _
  exact rfl
noncomputable def claF (a b c:Int):Int:=(clamp_ex a b c).choose
theorem cla_ok (a b c:Int) (h:Heap):doCall E (callR E) 34 [.int .i64 a,.int .i64 b,.int .i64 c] h=some (.int .i64 (claF a b c),h):=(clamp_ex a b c).choose_spec h
theorem sat_ok (a:Int) (h:Heap):doCall E (callR E) 82 [.int .i64 a] h=some (.int .i64 (claF a (-536870911) 536870911),h):=by
  refine Zd (pf:=p82) rfl rfl rfl rfl (by simp [PV.lowL,PV.low]) (by simp [PV.low,PV.lowL]) ?_ h
  show kQ E _ (endQ [⟨2,none⟩] _) .norm { lvl:=0,tmps:=mk 5 [(0,.int .i64 a)],heap:=[[]],defers:=[] }
  repeat' first|(with_reducible first|refine cS ?_ ?_|refine oS ?_ ?_|refine dS ?_ ?_)<;>intro _|((with_reducible refine kk ?_ ?_);·rfl)|simp -implicitDefEqProofs(disch:=first|omega|assumption)only[push_cast,simprocAttr,Zf,Ze,Zi,Zg,cla_ok]|(with_reducible first|refine cB ?_ ?_|refine oB ?_ ?_|refine dB ?_ ?_)<;>intro _
theorem add_ex (a b:Int):RetI 52 [.int .i64 a,.int .i64 b]:=by
  apply Exists.intro
  intro h
  refine Zd (pf:=p52) rfl rfl rfl rfl (by simp [PV.lowL,PV.low]) (by simp [PV.low,PV.lowL]) ?_ h
  show kQ E _ (endQ [⟨4,none⟩] _) .norm { lvl:=0,tmps:=mk 11 [(0,.int .i64 a),(1,.int .i64 b)],heap:=[[]],defers:=[] }
  repeat' first|(with_reducible first|refine cS ?_ ?_|refine oS ?_ ?_|refine dS ?_ ?_)<;>intro _|((with_reducible refine kk ?_ ?_);·rfl)|simp -implicitDefEqProofs(disch:=first|omega|assumption)only[push_cast,simprocAttr,Zf,Ze,Zi,Zg,sat_ok]|(with_reducible first|refine cB ?_ ?_|refine oB ?_ ?_|refine dB ?_ ?_)<;>intro _
  exact rfl
noncomputable def addF (a b:Int):Int:=(add_ex a b).choose
theorem add_ok (a b:Int) (h:Heap):doCall E (callR E) 52 [.int .i64 a,.int .i64 b] h=some (.int .i64 (addF a b),h):=(add_ex a b).choose_spec h
theorem sub_ex (a b:Int):RetI 54 [.int .i64 a,.int .i64 b]:=by
  apply Exists.intro
  intro h
  refine Zd (pf:=p54) rfl rfl rfl rfl (by simp [PV.lowL,PV.low]) (by simp [PV.low,PV.lowL]) ?_ h
  show kQ E _ (endQ [⟨4,none⟩] _) .norm { lvl:=0,tmps:=mk 11 [(0,.int .i64 a),(1,.int .i64 b)],heap:=[[]],defers:=[] }
  repeat' first|(with_reducible first|refine cS ?_ ?_|refine oS ?_ ?_|refine dS ?_ ?_)<;>intro _|((with_reducible refine kk ?_ ?_);·rfl)|simp -implicitDefEqProofs(disch:=first|omega|assumption)only[push_cast,simprocAttr,Zf,Ze,Zi,Zg,sat_ok]|(with_reducible first|refine cB ?_ ?_|refine oB ?_ ?_|refine dB ?_ ?_)<;>intro _
  exact rfl
noncomputable def subF (a b:Int):Int:=(sub_ex a b).choose
theorem sub_ok (a b:Int) (h:Heap):doCall E (callR E) 54 [.int .i64 a,.int .i64 b] h=some (.int .i64 (subF a b),h):=(sub_ex a b).choose_spec h
theorem wrapu {x:Int} (h1:0≤x) (h2:x≤18446744073709551615):IntKind.u64.wrap x=x:=by
  simp only [IntKind.wrap,IntKind.signed,IntKind.bits]
  simp
  omega
theorem rdp_ex (n d:Int) (hn:¬ n<0):RetI 83 [.int .i64 n,.int .i64 d]:=by
  by_cases h1:d<1
  · apply Exists.intro
    intro h
    refine Zd (pf:=p83) rfl rfl rfl rfl (by simp [PV.lowL,PV.low]) (by simp [PV.low,PV.lowL]) ?_ h
    show kQ E _ (endQ [⟨4,none⟩] _) .norm { lvl:=0,tmps:=mk 37 [(0,.int .i64 n),(1,.int .i64 d)],heap:=[[]],defers:=[] }
    repeat' first|(with_reducible first|refine cS ?_ ?_|refine oS ?_ ?_|refine dS ?_ ?_)<;>intro _|((with_reducible refine kk ?_ ?_);·rfl)|simp -implicitDefEqProofs(disch:=first|omega|assumption)only[push_cast,simprocAttr,Zf,Ze,Zi,Zg,h1]|(with_reducible first|refine cB ?_ ?_|refine oB ?_ ?_|refine dB ?_ ?_)<;>intro _
    exact rfl
  by_cases h2:d>4611686018427387904
  · apply Exists.intro
    intro h
    refine Zd (pf:=p83) rfl rfl rfl rfl (by simp [PV.lowL,PV.low]) (by simp [PV.low,PV.lowL]) ?_ h
    show kQ E _ (endQ [⟨4,none⟩] _) .norm { lvl:=0,tmps:=mk 37 [(0,.int .i64 n),(1,.int .i64 d)],heap:=[[]],defers:=[] }
    repeat' first|(with_reducible first|refine cS ?_ ?_|refine oS ?_ ?_|refine dS ?_ ?_)<;>intro _|((with_reducible refine kk ?_ ?_);·rfl)|simp -implicitDefEqProofs(disch:=first|omega|assumption)only[push_cast,simprocAttr,Zf,Ze,Zi,Zg,h1,h2]|(with_reducible first|refine cB ?_ ?_|refine oB ?_ ?_|refine dB ?_ ?_)<;>intro _
    exact rfl
  by_cases h4:n>4611686018427387904
  · apply Exists.intro
    intro h
    refine Zd (pf:=p83) rfl rfl rfl rfl (by simp [PV.lowL,PV.low]) (by simp [PV.low,PV.lowL]) ?_ h
    show kQ E _ (endQ [⟨4,none⟩] _) .norm { lvl:=0,tmps:=mk 37 [(0,.int .i64 n),(1,.int .i64 d)],heap:=[[]],defers:=[] }
    have h3:¬ n < -4611686018427387904:=by omega
    repeat' first|(with_reducible first|refine cS ?_ ?_|refine oS ?_ ?_|refine dS ?_ ?_)<;>intro _|((with_reducible refine kk ?_ ?_);·rfl)|simp -implicitDefEqProofs(disch:=first|omega|assumption)only[push_cast,simprocAttr,Zf,Ze,Zi,Zg,h1,h2,h3,h4]|(with_reducible first|refine cB ?_ ?_|refine oB ?_ ?_|refine dB ?_ ?_)<;>intro _
    exact rfl
  apply Exists.intro
  intro h
  refine Zd (pf:=p83) rfl rfl rfl rfl (by simp [PV.lowL,PV.low]) (by simp [PV.low,PV.lowL]) ?_ h
  show kQ E _ (endQ [⟨4,none⟩] _) .norm { lvl:=0,tmps:=mk 37 [(0,.int .i64 n),(1,.int .i64 d)],heap:=[[]],defers:=[] }
  have h3:¬ n < -4611686018427387904:=by omega
  have hz:¬ 2*d=0:=by omega
  repeat' first|(with_reducible first|refine cS ?_ ?_|refine oS ?_ ?_|refine dS ?_ ?_)<;>intro _|((with_reducible refine kk ?_ ?_);·rfl)|simp -implicitDefEqProofs(disch:=first|omega|assumption)only[push_cast,simprocAttr,Zf,Ze,Zi,Zg,h1,h2,h3,h4,hn,wrapu,hz]|(with_reducible first|refine cB ?_ ?_|refine oB ?_ ?_|refine dB ?_ ?_)<;>intro _
  exact rfl
theorem rd_ex (n d:Int):RetI 83 [.int .i64 n,.int .i64 d]:=by
  by_cases hn:n<0
  · by_cases h1:d<1
    · apply Exists.intro
      intro h
      refine Zd (pf:=p83) rfl rfl rfl rfl (by simp [PV.lowL,PV.low]) (by simp [PV.low,PV.lowL]) ?_ h
      show kQ E _ (endQ [⟨4,none⟩] _) .norm { lvl:=0,tmps:=mk 37 [(0,.int .i64 n),(1,.int .i64 d)],heap:=[[]],defers:=[] }
      repeat' first|(with_reducible first|refine cS ?_ ?_|refine oS ?_ ?_|refine dS ?_ ?_)<;>intro _|((with_reducible refine kk ?_ ?_);·rfl)|simp -implicitDefEqProofs(disch:=first|omega|assumption)only[push_cast,simprocAttr,Zf,Ze,Zi,Zg,h1]|(with_reducible first|refine cB ?_ ?_|refine oB ?_ ?_|refine dB ?_ ?_)<;>intro _
      exact rfl
    by_cases h2:d>4611686018427387904
    · apply Exists.intro
      intro h
      refine Zd (pf:=p83) rfl rfl rfl rfl (by simp [PV.lowL,PV.low]) (by simp [PV.low,PV.lowL]) ?_ h
      show kQ E _ (endQ [⟨4,none⟩] _) .norm { lvl:=0,tmps:=mk 37 [(0,.int .i64 n),(1,.int .i64 d)],heap:=[[]],defers:=[] }
      repeat' first|(with_reducible first|refine cS ?_ ?_|refine oS ?_ ?_|refine dS ?_ ?_)<;>intro _|((with_reducible refine kk ?_ ?_);·rfl)|simp -implicitDefEqProofs(disch:=first|omega|assumption)only[push_cast,simprocAttr,Zf,Ze,Zi,Zg,h1,h2]|(with_reducible first|refine cB ?_ ?_|refine oB ?_ ?_|refine dB ?_ ?_)<;>intro _
      exact rfl
    by_cases h3:n < -4611686018427387904
    · apply Exists.intro
      intro h
      refine Zd (pf:=p83) rfl rfl rfl rfl (by simp [PV.lowL,PV.low]) (by simp [PV.low,PV.lowL]) ?_ h
      show kQ E _ (endQ [⟨4,none⟩] _) .norm { lvl:=0,tmps:=mk 37 [(0,.int .i64 n),(1,.int .i64 d)],heap:=[[]],defers:=[] }
      repeat' first|(with_reducible first|refine cS ?_ ?_|refine oS ?_ ?_|refine dS ?_ ?_)<;>intro _|((with_reducible refine kk ?_ ?_);·rfl)|simp -implicitDefEqProofs(disch:=first|omega|assumption)only[push_cast,simprocAttr,Zf,Ze,Zi,Zg,h1,h2,h3]|(with_reducible first|refine cB ?_ ?_|refine oB ?_ ?_|refine dB ?_ ?_)<;>intro _
      exact rfl
    obtain ⟨r,hr⟩:=rdp_ex (0 - n) d (by omega)
    apply Exists.intro
    intro h
    refine Zd (pf:=p83) rfl rfl rfl rfl (by simp [PV.lowL,PV.low]) (by simp [PV.low,PV.lowL]) ?_ h
    show kQ E _ (endQ [⟨4,none⟩] _) .norm { lvl:=0,tmps:=mk 37 [(0,.int .i64 n),(1,.int .i64 d)],heap:=[[]],defers:=[] }
    have h4:¬ n>4611686018427387904:=by omega
    have pu83:pureB E 83=true:=rfl
    repeat' first|(with_reducible first|refine cS ?_ ?_|refine oS ?_ ?_|refine dS ?_ ?_)<;>intro _|((with_reducible refine kk ?_ ?_);·rfl)|simp -implicitDefEqProofs(disch:=first|omega|assumption)only[push_cast,simprocAttr,Zf,Ze,Zi,Zg,h1,h2,h3,h4,hn,hr]|(with_reducible first|refine cB ?_ ?_|refine oB ?_ ?_|refine dB ?_ ?_)<;>intro _
    exact rfl
  · exact rdp_ex n d hn
noncomputable def rdF (n d:Int):Int:=(rd_ex n d).choose
theorem rd_ok (n d:Int) (h:Heap):doCall E (callR E) 83 [.int .i64 n,.int .i64 d] h=some (.int .i64 (rdF n d),h):=(rd_ex n d).choose_spec h
theorem mul_ex (a b:Int):RetI 53 [.int .i64 a,.int .i64 b]:=by
  apply Exists.intro
  intro h
  refine Zd (pf:=p53) rfl rfl rfl rfl (by simp [PV.lowL,PV.low]) (by simp [PV.low,PV.lowL]) ?_ h
  show kQ E _ (endQ [⟨4,none⟩] _) .norm { lvl:=0,tmps:=mk 12 [(0,.int .i64 a),(1,.int .i64 b)],heap:=[[]],defers:=[] }
  repeat' first|(with_reducible first|refine cS ?_ ?_|refine oS ?_ ?_|refine dS ?_ ?_)<;>intro _|((with_reducible refine kk ?_ ?_);·rfl)|simp -implicitDefEqProofs(disch:=first|omega|assumption)only[push_cast,simprocAttr,Zf,Ze,Zi,Zg,sat_ok,rd_ok]|(with_reducible first|refine cB ?_ ?_|refine oB ?_ ?_|refine dB ?_ ?_)<;>intro _
  exact rfl
noncomputable def mulF (a b:Int):Int:=(mul_ex a b).choose
theorem mul_ok (a b:Int) (h:Heap):doCall E (callR E) 53 [.int .i64 a,.int .i64 b] h=some (.int .i64 (mulF a b),h):=(mul_ex a b).choose_spec h
theorem rat_ex (n d:Int):RetI 84 [.int .i64 n,.int .i64 d]:=by
  by_cases h1:d<1
  · apply Exists.intro
    intro h
    refine Zd (pf:=p84) rfl rfl rfl rfl (by simp [PV.lowL,PV.low]) (by simp [PV.low,PV.lowL]) ?_ h
    show kQ E _ (endQ [⟨4,none⟩] _) .norm { lvl:=0,tmps:=mk 32 [(0,.int .i64 n),(1,.int .i64 d)],heap:=[[]],defers:=[] }
    repeat' first|(with_reducible first|refine cS ?_ ?_|refine oS ?_ ?_|refine dS ?_ ?_)<;>intro _|((with_reducible refine kk ?_ ?_);·rfl)|simp -implicitDefEqProofs(disch:=first|omega|assumption)only[push_cast,simprocAttr,Zf,Ze,Zi,Zg,h1]|(with_reducible first|refine cB ?_ ?_|refine oB ?_ ?_|refine dB ?_ ?_)<;>intro _
    exact rfl
  by_cases h2:d>4611686018427387904
  · apply Exists.intro
    intro h
    refine Zd (pf:=p84) rfl rfl rfl rfl (by simp [PV.lowL,PV.low]) (by simp [PV.low,PV.lowL]) ?_ h
    show kQ E _ (endQ [⟨4,none⟩] _) .norm { lvl:=0,tmps:=mk 32 [(0,.int .i64 n),(1,.int .i64 d)],heap:=[[]],defers:=[] }
    repeat' first|(with_reducible first|refine cS ?_ ?_|refine oS ?_ ?_|refine dS ?_ ?_)<;>intro _|((with_reducible refine kk ?_ ?_);·rfl)|simp -implicitDefEqProofs(disch:=first|omega|assumption)only[push_cast,simprocAttr,Zf,Ze,Zi,Zg,h1,h2]|(with_reducible first|refine cB ?_ ?_|refine oB ?_ ?_|refine dB ?_ ?_)<;>intro _
    exact rfl
  by_cases h3:n<1
  · apply Exists.intro
    intro h
    refine Zd (pf:=p84) rfl rfl rfl rfl (by simp [PV.lowL,PV.low]) (by simp [PV.low,PV.lowL]) ?_ h
    show kQ E _ (endQ [⟨4,none⟩] _) .norm { lvl:=0,tmps:=mk 32 [(0,.int .i64 n),(1,.int .i64 d)],heap:=[[]],defers:=[] }
    repeat' first|(with_reducible first|refine cS ?_ ?_|refine oS ?_ ?_|refine dS ?_ ?_)<;>intro _|((with_reducible refine kk ?_ ?_);·rfl)|simp -implicitDefEqProofs(disch:=first|omega|assumption)only[push_cast,simprocAttr,Zf,Ze,Zi,Zg,h1,h2,h3]|(with_reducible first|refine cB ?_ ?_|refine oB ?_ ?_|refine dB ?_ ?_)<;>intro _
    exact rfl
  by_cases h4:n≥d
  · apply Exists.intro
    intro h
    refine Zd (pf:=p84) rfl rfl rfl rfl (by simp [PV.lowL,PV.low]) (by simp [PV.low,PV.lowL]) ?_ h
    show kQ E _ (endQ [⟨4,none⟩] _) .norm { lvl:=0,tmps:=mk 32 [(0,.int .i64 n),(1,.int .i64 d)],heap:=[[]],defers:=[] }
    repeat' first|(with_reducible first|refine cS ?_ ?_|refine oS ?_ ?_|refine dS ?_ ?_)<;>intro _|((with_reducible refine kk ?_ ?_);·rfl)|simp -implicitDefEqProofs(disch:=first|omega|assumption)only[push_cast,simprocAttr,Zf,Ze,Zi,Zg,h1,h2,h3,h4]|(with_reducible first|refine cB ?_ ?_|refine oB ?_ ?_|refine dB ?_ ?_)<;>intro _
    exact rfl
  by_cases h5:d<70368744177664
  · apply Exists.intro
    intro h
    refine Zd (pf:=p84) rfl rfl rfl rfl (by simp [PV.lowL,PV.low]) (by simp [PV.low,PV.lowL]) ?_ h
    show kQ E _ (endQ [⟨4,none⟩] _) .norm { lvl:=0,tmps:=mk 32 [(0,.int .i64 n),(1,.int .i64 d)],heap:=[[]],defers:=[] }
    repeat' first|(with_reducible first|refine cS ?_ ?_|refine oS ?_ ?_|refine dS ?_ ?_)<;>intro _|((with_reducible refine kk ?_ ?_);·rfl)|simp -implicitDefEqProofs(disch:=first|omega|assumption)only[push_cast,simprocAttr,Zf,Ze,Zi,Zg,h1,h2,h3,h4,h5,rd_ok]|(with_reducible first|refine cB ?_ ?_|refine oB ?_ ?_|refine dB ?_ ?_)<;>intro _
    exact rfl
  apply Exists.intro
  intro h
  refine Zd (pf:=p84) rfl rfl rfl rfl (by simp [PV.lowL,PV.low]) (by simp [PV.low,PV.lowL]) ?_ h
  show kQ E _ (endQ [⟨4,none⟩] _) .norm { lvl:=0,tmps:=mk 32 [(0,.int .i64 n),(1,.int .i64 d)],heap:=[[]],defers:=[] }
  repeat' first|(with_reducible first|refine cS ?_ ?_|refine oS ?_ ?_|refine dS ?_ ?_)<;>intro _|((with_reducible refine kk ?_ ?_);·rfl)|simp -implicitDefEqProofs(disch:=first|omega|assumption)only[push_cast,simprocAttr,Zf,Ze,Zi,Zg,h1,h2,h3,h4,h5,rd_ok]|(with_reducible first|refine cB ?_ ?_|refine oB ?_ ?_|refine dB ?_ ?_)<;>intro _
  exact rfl
noncomputable def ratF (n d:Int):Int:=(rat_ex n d).choose
theorem rat_ok (n d:Int) (h:Heap):doCall E (callR E) 84 [.int .i64 n,.int .i64 d] h=some (.int .i64 (ratF n d),h):=(rat_ex n d).choose_spec h
theorem ewei_ex (t:Tri) (x y:Int):∃ a b c d:Int,∀ h,doCall E (callR E) 85 [.agg t.c,.int .i64 x,.int .i64 y] h=some (.tuple [.agg [.int .i64 a,.int .i64 b,.int .i64 c],.int .i64 d],h):=by
  cases h1:vaF t
  all_goals
    iterate 4 apply Exists.intro
    intro h
    refine Zd (pf:=p85) rfl rfl rfl rfl (by simp [PV.lowL,PV.low]) (by simp [PV.low,PV.lowL]) ?_ h
    show kQ E _ (endQ [⟨6,some (some 3)⟩,⟨7,none⟩] _) .norm { lvl:=0,tmps:=mk 54 [(0,.agg t.c),(1,.int .i64 x),(2,.int .i64 y)],heap:=[[none,none,none,none]],defers:=[] }
    repeat' first|(with_reducible first|refine cS ?_ ?_|refine oS ?_ ?_|refine dS ?_ ?_)<;>intro _|((with_reducible refine kk ?_ ?_);·rfl)|simp -implicitDefEqProofs(disch:=first|omega|assumption)only[push_cast,simprocAttr,Zf,Ze,Zi,Zg,va_ok,h1,fun_ok,stabG,stabS,Zv,Z5,Zu,Zp,Zs,Z3,Z4,Zt,Zq,Zn]|(with_reducible first|refine cB ?_ ?_|refine oB ?_ ?_|refine dB ?_ ?_)<;>intro _|with_reducible first|refine Zw ?_ ?_|refine Zx (by decide) ?_|refine Zy (by decide) ?_ ?_|exact Zz|refine Zr ?_|refine Zo ?_|refine loopK' (c:=p85l0) rfl ?_
    exact rfl
theorem wei_ex (t:Tri) (x y:Int):∃ a b c:Int,∀ h,doCall E (callR E) 56 [.agg t.c,.int .i64 x,.int .i64 y] h=some (.agg [.int .i64 a,.int .i64 b,.int .i64 c],h):=by
  obtain ⟨a,b,c,d,hr⟩:=ewei_ex t x y
  iterate 3 apply Exists.intro
  intro h
  refine Zd (pf:=p56) rfl rfl rfl rfl (by simp [PV.lowL,PV.low]) (by simp [PV.low,PV.lowL]) ?_ h
  show kQ E _ (endQ [⟨6,some (some 3)⟩] _) .norm { lvl:=0,tmps:=mk 28 [(0,.agg t.c),(1,.int .i64 x),(2,.int .i64 y)],heap:=[[none,none]],defers:=[] }
  repeat' first|(with_reducible first|refine cS ?_ ?_|refine oS ?_ ?_|refine dS ?_ ?_)<;>intro _|((with_reducible refine kk ?_ ?_);·rfl)|simp -implicitDefEqProofs(disch:=first|omega|assumption)only[push_cast,simprocAttr,Zf,Ze,Zi,Zg,hr,stabG,stabS,Zv,Z5,Zu,Zp,Zs,Z3,Z4,Zt,Zq,Zn]|(with_reducible first|refine cB ?_ ?_|refine oB ?_ ?_|refine dB ?_ ?_)<;>intro _|with_reducible first|refine Zw ?_ ?_|refine Zx (by decide) ?_|refine Zy (by decide) ?_ ?_|exact Zz|refine Zr ?_|refine Zo ?_|refine loopK' (c:=p56l0) rfl ?_
  exact rfl
theorem rts_ex (a b c:Int):∃ d e:Int,∀ h,doCall E (callR E) 55 [.agg [.int .i64 a,.int .i64 b,.int .i64 c]] h=some (.agg [.int .i64 d,.int .i64 e],h):=by
  iterate 2 apply Exists.intro
  intro h
  refine Zd (pf:=p55) rfl rfl rfl rfl (by simp [PV.lowL,PV.low]) (by simp [PV.low,PV.lowL]) ?_ h
  show kQ E _ (endQ [⟨2,some (some 2)⟩] _) .norm { lvl:=0,tmps:=mk 21 [(0,.agg [.int .i64 a,.int .i64 b,.int .i64 c])],heap:=[[none]],defers:=[] }
  have pu84:pureB E 84=true:=rfl
  repeat' first|(with_reducible first|refine cS ?_ ?_|refine oS ?_ ?_|refine dS ?_ ?_)<;>intro _|((with_reducible refine kk ?_ ?_);·rfl)|simp -implicitDefEqProofs(disch:=first|omega|assumption)only[push_cast,simprocAttr,Zf,Ze,Zi,Zg,rat_ok,stabG,stabS,Zv,Z5,Zu,Zp,Zs,Z3,Z4,Zt,Zq,Zn]|(with_reducible first|refine cB ?_ ?_|refine oB ?_ ?_|refine dB ?_ ?_)<;>intro _|with_reducible first|refine Zw ?_ ?_|refine Zx (by decide) ?_|refine Zy (by decide) ?_ ?_|exact Zz|refine Zr ?_|refine Zo ?_
  exact rfl
theorem lin_ex (t:Tri) (x y:Int):∃ d e:Int,∀ h,doCall E (callR E) 36 [.agg t.c,.int .i64 x,.int .i64 y] h=some (.agg [.int .i64 d,.int .i64 e],h):=by
  obtain ⟨a,b,c,hr⟩:=wei_ex t x y
  obtain ⟨d,e,hq⟩:=rts_ex a b c
  iterate 2 apply Exists.intro
  intro h
  refine Zd (pf:=p36) rfl rfl rfl rfl (by simp [PV.lowL,PV.low]) (by simp [PV.low,PV.lowL]) ?_ h
  show kQ E _ (endQ [⟨6,some (some 2)⟩] _) .norm { lvl:=0,tmps:=mk 12 [(0,.agg t.c),(1,.int .i64 x),(2,.int .i64 y)],heap:=[[none]],defers:=[] }
  repeat' first|(with_reducible first|refine cS ?_ ?_|refine oS ?_ ?_|refine dS ?_ ?_)<;>intro _|((with_reducible refine kk ?_ ?_);·rfl)|simp -implicitDefEqProofs(disch:=first|omega|assumption)only[push_cast,simprocAttr,Zf,Ze,Zi,Zg,hr,hq]|(with_reducible first|refine cB ?_ ?_|refine oB ?_ ?_|refine dB ?_ ?_)<;>intro _
  exact rfl
theorem per_ex (t:Tri) (x y:Int):∃ d e:Int,∀ h,doCall E (callR E) 86 [.agg t.c,.int .i64 x,.int .i64 y] h=some (.agg [.int .i64 d,.int .i64 e],h):=by
  obtain ⟨a,b,c,hr⟩:=wei_ex t x y
  obtain ⟨d,e,hq⟩:=rts_ex a b c
  obtain ⟨d',e',hq'⟩:=rts_ex (IntKind.i64.wrap (a*claF t.a.w 0 16777216)) (IntKind.i64.wrap (b*claF t.b.w 0 16777216)) (IntKind.i64.wrap (c*claF t.d.w 0 16777216))
  by_cases e1:IntKind.i64.wrap (a*claF t.a.w 0 16777216)=0
  · by_cases e2:IntKind.i64.wrap (b*claF t.b.w 0 16777216)=0
    · by_cases e3:IntKind.i64.wrap (c*claF t.d.w 0 16777216)=0
      · refine ⟨d,e,fun h=>?_⟩
        refine Zd (pf:=p86) rfl rfl rfl rfl (by simp [PV.lowL,PV.low]) (by simp [PV.low,PV.lowL]) ?_ h
        show kQ E _ (endQ [⟨6,some (some 2)⟩] _) .norm { lvl:=0,tmps:=mk 37 [(0,.agg t.c),(1,.int .i64 x),(2,.int .i64 y)],heap:=[[none,none,none]],defers:=[] }
        repeat' first|(with_reducible first|refine cS ?_ ?_|refine oS ?_ ?_|refine dS ?_ ?_)<;>intro _|((with_reducible refine kk ?_ ?_);·rfl)|simp -implicitDefEqProofs(disch:=first|omega|assumption)only[push_cast,simprocAttr,Zf,Ze,Zi,Zg,hr,hq,hq',cla_ok,e1,e2,e3,stabG,stabS,Zv,Z5,Zu,Zp,Zs,Z3,Z4,Zt,Zq,Zn]|(with_reducible first|refine cB ?_ ?_|refine oB ?_ ?_|refine dB ?_ ?_)<;>intro _|with_reducible first|refine Zw ?_ ?_|refine Zx (by decide) ?_|refine Zy (by decide) ?_ ?_|exact Zz|refine Zr ?_|refine Zo ?_|refine loopK' (c:=p86l0) rfl ?_
      · simp only [e1,e2] at hq'
        refine ⟨d',e',fun h=>?_⟩
        refine Zd (pf:=p86) rfl rfl rfl rfl (by simp [PV.lowL,PV.low]) (by simp [PV.low,PV.lowL]) ?_ h
        show kQ E _ (endQ [⟨6,some (some 2)⟩] _) .norm { lvl:=0,tmps:=mk 37 [(0,.agg t.c),(1,.int .i64 x),(2,.int .i64 y)],heap:=[[none,none,none]],defers:=[] }
        repeat' first|(with_reducible first|refine cS ?_ ?_|refine oS ?_ ?_|refine dS ?_ ?_)<;>intro _|((with_reducible refine kk ?_ ?_);·rfl)|simp -implicitDefEqProofs(disch:=first|omega|assumption)only[push_cast,simprocAttr,Zf,Ze,Zi,Zg,hr,hq,hq',cla_ok,e1,e2,e3,stabG,stabS,Zv,Z5,Zu,Zp,Zs,Z3,Z4,Zt,Zq,Zn]|(with_reducible first|refine cB ?_ ?_|refine oB ?_ ?_|refine dB ?_ ?_)<;>intro _|with_reducible first|refine Zw ?_ ?_|refine Zx (by decide) ?_|refine Zy (by decide) ?_ ?_|exact Zz|refine Zr ?_|refine Zo ?_|refine loopK' (c:=p86l0) rfl ?_
    · simp only [e1] at hq'
      refine ⟨d',e',fun h=>?_⟩
      refine Zd (pf:=p86) rfl rfl rfl rfl (by simp [PV.lowL,PV.low]) (by simp [PV.low,PV.lowL]) ?_ h
      show kQ E _ (endQ [⟨6,some (some 2)⟩] _) .norm { lvl:=0,tmps:=mk 37 [(0,.agg t.c),(1,.int .i64 x),(2,.int .i64 y)],heap:=[[none,none,none]],defers:=[] }
      repeat' first|(with_reducible first|refine cS ?_ ?_|refine oS ?_ ?_|refine dS ?_ ?_)<;>intro _|((with_reducible refine kk ?_ ?_);·rfl)|simp -implicitDefEqProofs(disch:=first|omega|assumption)only[push_cast,simprocAttr,Zf,Ze,Zi,Zg,hr,hq,hq',cla_ok,e1,e2,stabG,stabS,Zv,Z5,Zu,Zp,Zs,Z3,Z4,Zt,Zq,Zn]|(with_reducible first|refine cB ?_ ?_|refine oB ?_ ?_|refine dB ?_ ?_)<;>intro _|with_reducible first|refine Zw ?_ ?_|refine Zx (by decide) ?_|refine Zy (by decide) ?_ ?_|exact Zz|refine Zr ?_|refine Zo ?_|refine loopK' (c:=p86l0) rfl ?_
  · refine ⟨d',e',fun h=>?_⟩
    refine Zd (pf:=p86) rfl rfl rfl rfl (by simp [PV.lowL,PV.low]) (by simp [PV.low,PV.lowL]) ?_ h
    show kQ E _ (endQ [⟨6,some (some 2)⟩] _) .norm { lvl:=0,tmps:=mk 37 [(0,.agg t.c),(1,.int .i64 x),(2,.int .i64 y)],heap:=[[none,none,none]],defers:=[] }
    repeat' first|(with_reducible first|refine cS ?_ ?_|refine oS ?_ ?_|refine dS ?_ ?_)<;>intro _|((with_reducible refine kk ?_ ?_);·rfl)|simp -implicitDefEqProofs(disch:=first|omega|assumption)only[push_cast,simprocAttr,Zf,Ze,Zi,Zg,hr,hq,hq',cla_ok,e1,stabG,stabS,Zv,Z5,Zu,Zp,Zs,Z3,Z4,Zt,Zq,Zn]|(with_reducible first|refine cB ?_ ?_|refine oB ?_ ?_|refine dB ?_ ?_)<;>intro _|with_reducible first|refine Zw ?_ ?_|refine Zx (by decide) ?_|refine Zy (by decide) ?_ ?_|exact Zz|refine Zr ?_|refine Zo ?_|refine loopK' (c:=p86l0) rfl ?_
theorem mix_ex (a b c d e:Int):RetI 35 [.agg [.int .i64 a,.int .i64 b],.int .i64 c,.int .i64 d,.int .i64 e]:=by
  apply Exists.intro
  intro h
  refine Zd (pf:=p35) rfl rfl rfl rfl (by simp [PV.lowL,PV.low]) (by simp [PV.low,PV.lowL]) ?_ h
  show kQ E _ (endQ [⟨8,none⟩] _) .norm { lvl:=0,tmps:=mk 24 [(0,.agg [.int .i64 a,.int .i64 b]),(1,.int .i64 c),(2,.int .i64 d),(3,.int .i64 e)],heap:=[[]],defers:=[] }
  have pu53:pureB E 53=true:=rfl
  have pu54:pureB E 54=true:=rfl
  repeat' first|(with_reducible first|refine cS ?_ ?_|refine oS ?_ ?_|refine dS ?_ ?_)<;>intro _|((with_reducible refine kk ?_ ?_);·rfl)|simp -implicitDefEqProofs(disch:=first|omega|assumption)only[push_cast,simprocAttr,Zf,Ze,Zi,Zg,add_ok,mul_ok,sub_ok,stabG,stabS,Zv,Z5,Zu,Zp,Zs,Z3,Z4,Zt,Zq,Zn]|(with_reducible first|refine cB ?_ ?_|refine oB ?_ ?_|refine dB ?_ ?_)<;>intro _|with_reducible first|refine Zw ?_ ?_|refine Zx (by decide) ?_|refine Zy (by decide) ?_ ?_|exact Zz|refine Zr ?_|refine Zo ?_
  exact rfl
noncomputable def mixF (a b c d e:Int):Int:=(mix_ex a b c d e).choose
theorem mix_ok (a b c d e:Int) (h:Heap):doCall E (callR E) 35 [.agg [.int .i64 a,.int .i64 b],.int .i64 c,.int .i64 d,.int .i64 e] h=some (.int .i64 (mixF a b c d e),h):=(mix_ex a b c d e).choose_spec h
theorem dep_ex (t:Tri) (x y:Int):RetI 21 [.agg t.c,.int .i64 x,.int .i64 y]:=by
  obtain ⟨d,e,hq⟩:=lin_ex t x y
  cases h1:vaF t
  all_goals
    apply Exists.intro
    intro h
    refine Zd (pf:=p21) rfl rfl rfl rfl (by simp [PV.lowL,PV.low]) (by simp [PV.low,PV.lowL]) ?_ h
    show kQ E _ (endQ [⟨6,none⟩] _) .norm { lvl:=0,tmps:=mk 28 [(0,.agg t.c),(1,.int .i64 x),(2,.int .i64 y)],heap:=[[]],defers:=[] }
    have pu36:pureB E 36=true:=rfl
    repeat' first|(with_reducible first|refine cS ?_ ?_|refine oS ?_ ?_|refine dS ?_ ?_)<;>intro _|((with_reducible refine kk ?_ ?_);·rfl)|simp -implicitDefEqProofs(disch:=first|omega|assumption)only[push_cast,simprocAttr,Zf,Ze,Zi,Zg,va_ok,h1,hq,mix_ok,cla_ok,stabG,stabS,Zv,Z5,Zu,Zp,Zs,Z3,Z4,Zt,Zq,Zn]|(with_reducible first|refine cB ?_ ?_|refine oB ?_ ?_|refine dB ?_ ?_)<;>intro _|with_reducible first|refine Zw ?_ ?_|refine Zx (by decide) ?_|refine Zy (by decide) ?_ ?_|exact Zz|refine Zr ?_|refine Zo ?_
    exact rfl
noncomputable def depF (t:Tri) (x y:Int):Int:=(dep_ex t x y).choose
theorem dep_ok (t:Tri) (x y:Int) (h:Heap):doCall E (callR E) 21 [.agg t.c,.int .i64 x,.int .i64 y] h=some (.int .i64 (depF t x y),h):=(dep_ex t x y).choose_spec h
theorem cmp_ex (f:Fl) (l:List Int) (i:Nat):RetI 87 [.vs f (ints l),.int .i64 i]:=by
  by_cases h1:i<l.length
  · have hg:(ints l)[i]?=some (.int .i64 (l[i]'h1)):=by simp [ints,h1]
    apply Exists.intro
    intro h
    refine Zd (pf:=p87) rfl rfl rfl rfl (by simp [PV.lowL,PV.low]) (by simp [PV.low,PV.lowL]) ?_ h
    show kQ E _ (endQ [⟨4,none⟩] _) .norm { lvl:=0,tmps:=mk 13 [(0,.vs f (ints l)),(1,.int .i64 i)],heap:=[[]],defers:=[] }
    repeat' first|(with_reducible first|refine cS ?_ ?_|refine oS ?_ ?_|refine dS ?_ ?_)<;>intro _|((with_reducible refine kk ?_ ?_);·rfl)|simp -implicitDefEqProofs(disch:=first|omega|assumption)only[push_cast,simprocAttr,Zf,Ze,Zi,Zg,hg,Int.ofNat_lt,h1]|(with_reducible first|refine cB ?_ ?_|refine oB ?_ ?_|refine dB ?_ ?_)<;>intro _
    exact rfl
  · apply Exists.intro
    intro h
    refine Zd (pf:=p87) rfl rfl rfl rfl (by simp [PV.lowL,PV.low]) (by simp [PV.low,PV.lowL]) ?_ h
    show kQ E _ (endQ [⟨4,none⟩] _) .norm { lvl:=0,tmps:=mk 13 [(0,.vs f (ints l)),(1,.int .i64 i)],heap:=[[]],defers:=[] }
    repeat' first|(with_reducible first|refine cS ?_ ?_|refine oS ?_ ?_|refine dS ?_ ?_)<;>intro _|((with_reducible refine kk ?_ ?_);·rfl)|simp -implicitDefEqProofs(disch:=first|omega|assumption)only[push_cast,simprocAttr,Zf,Ze,Zi,Zg,Int.ofNat_lt,h1]|(with_reducible first|refine cB ?_ ?_|refine oB ?_ ?_|refine dB ?_ ?_)<;>intro _
    exact rfl
noncomputable def cmpF (f:Fl) (l:List Int) (i:Nat):Int:=(cmp_ex f l i).choose
theorem cmp_ok (f:Fl) (l:List Int) (i:Nat) (h:Heap):doCall E (callR E) 87 [.vs f (ints l),.int .i64 i] h=some (.int .i64 (cmpF f l i),h):=(cmp_ex f l i).choose_spec h
end Go.VI.S
