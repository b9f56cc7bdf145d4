/- Chapter 53: samples, masks. -/
import Derived.Test.YtdbhbceogacppaaGreatF53d
set_option maxRecDepth 100000
set_option linter.unusedSimpArgs false
set_option linter.unusedVariables false
namespace Go.VI.S
open Go.VI
def psL (n:Int):List (Int × Int):=if n=1 then [(128,128)] else if n=2 then [(192,192),(64,64)] else if n=4 then [(96,32),(224,96),(32,160),(160,224)] else if n=8 then [(144,80),(112,176),(208,144),(80,48),(48,208),(16,112),(176,240),(240,16)] else []
def pfl (n:Int):Fl:=if n=1∨n=2∨n=4∨n=8 then .clip else .nil
def prs (l:List (Int × Int)):List PV:=l.map fun p=>.agg [.int .i64 p.1,.int .i64 p.2]
theorem prs_len {l:List (Int × Int)}:(prs l).length=l.length:=by simp [prs]
theorem prs_low {l:List (Int × Int)}:PV.lowL 0 (prs l)=true:=by
  induction l with
  | nil=>rfl
  | cons a l ih=>simpa [prs,PV.lowL,PV.low] using ih
theorem prs_same:∀ l:List (Int × Int),PV.sameL (prs l) (prs l)=true
  | []=>rfl
  | a::l=>by simpa [prs,PV.sameL,PV.same] using prs_same l
theorem prs_at {l:List (Int × Int)} {i:Nat} (h:i<l.length):(prs l)[i]?=some (.agg [.int .i64 (l[i]'h).1,.int .i64 (l[i]'h).2]):=by simp [prs,h]
theorem psL_len (n:Int):(psL n).length≤8∧((psL n).length≠0→n=1∨n=2∨n=4∨n=8):=by
  unfold psL
  (repeat' split)<;>simp<;>omega
attribute [push_cast] prs_len prs_low prs_same
theorem pos_ok (n:Int) (h:Heap):doCall E (callR E) 33 [.int .i64 n] h=some (.vs (pfl n) (prs (psL n)),h):=by
  by_cases h1:n=1
  · subst h1
    refine Zd (pf:=p33) rfl rfl rfl rfl (by simp [PV.lowL,PV.low]) (by simp [PV.low,PV.lowL]) ?_ h
    show kQ E _ (endQ [⟨2,none⟩] _) .norm { lvl:=0,tmps:=mk 31 [(0,.int .i64 1)],heap:=[[]],defers:=[] }
    repeat' first|(with_reducible first|refine cS ?_ ?_|refine oS ?_ ?_|refine dS ?_ ?_)<;>intro _|((with_reducible refine kk ?_ ?_);·rfl)|simp -implicitDefEqProofs(disch:=first|omega|assumption)only[push_cast,simprocAttr,Zf,Ze,Zi,Zg]|(with_reducible first|refine cB ?_ ?_|refine oB ?_ ?_|refine dB ?_ ?_)<;>intro _
    all_goals rfl
  by_cases h2:n=2
  · subst h2
    refine Zd (pf:=p33) rfl rfl rfl rfl (by simp [PV.lowL,PV.low]) (by simp [PV.low,PV.lowL]) ?_ h
    show kQ E _ (endQ [⟨2,none⟩] _) .norm { lvl:=0,tmps:=mk 31 [(0,.int .i64 2)],heap:=[[]],defers:=[] }
    repeat' first|(with_reducible first|refine cS ?_ ?_|refine oS ?_ ?_|refine dS ?_ ?_)<;>intro _|((with_reducible refine kk ?_ ?_);·rfl)|simp -implicitDefEqProofs(disch:=first|omega|assumption)only[push_cast,simprocAttr,Zf,Ze,Zi,Zg]|(with_reducible first|refine cB ?_ ?_|refine oB ?_ ?_|refine dB ?_ ?_)<;>intro _
    all_goals rfl
  by_cases h4:n=4
  · subst h4
    refine Zd (pf:=p33) rfl rfl rfl rfl (by simp [PV.lowL,PV.low]) (by simp [PV.low,PV.lowL]) ?_ h
    show kQ E _ (endQ [⟨2,none⟩] _) .norm { lvl:=0,tmps:=mk 31 [(0,.int .i64 4)],heap:=[[]],defers:=[] }
    repeat' first|(with_reducible first|refine cS ?_ ?_|refine oS ?_ ?_|refine dS ?_ ?_)<;>intro _|((with_reducible refine kk ?_ ?_);·rfl)|simp -implicitDefEqProofs(disch:=first|omega|assumption)only[push_cast,simprocAttr,Zf,Ze,Zi,Zg]|(with_reducible first|refine cB ?_ ?_|refine oB ?_ ?_|refine dB ?_ ?_)<;>intro _
    all_goals rfl
  by_cases h8:n=8
  · subst h8
    refine Zd (pf:=p33) rfl rfl rfl rfl (by simp [PV.lowL,PV.low]) (by simp [PV.low,PV.lowL]) ?_ h
    show kQ E _ (endQ [⟨2,none⟩] _) .norm { lvl:=0,tmps:=mk 31 [(0,.int .i64 8)],heap:=[[]],defers:=[] }
    repeat' first|(with_reducible first|refine cS ?_ ?_|refine oS ?_ ?_|refine dS ?_ ?_)<;>intro _|((with_reducible refine kk ?_ ?_);·rfl)|simp -implicitDefEqProofs(disch:=first|omega|assumption)only[push_cast,simprocAttr,Zf,Ze,Zi,Zg]|(with_reducible first|refine cB ?_ ?_|refine oB ?_ ?_|refine dB ?_ ?_)<;>intro _
    all_goals rfl
  refine Zd (pf:=p33) rfl rfl rfl rfl (by simp [PV.lowL,PV.low]) (by simp [PV.low,PV.lowL]) ?_ h
  show kQ E _ (endQ [⟨2,none⟩] _) .norm { lvl:=0,tmps:=mk 31 [(0,.int .i64 n)],heap:=[[]],defers:=[] }
  repeat' first|(with_reducible first|refine cS ?_ ?_|refine oS ?_ ?_|refine dS ?_ ?_)<;>intro _|((with_reducible refine kk ?_ ?_);·rfl)|simp -implicitDefEqProofs(disch:=first|omega|assumption)only[push_cast,simprocAttr,Zf,Ze,Zi,Zg,h1,h2,h4,h8]|(with_reducible first|refine cB ?_ ?_|refine oB ?_ ?_|refine dB ?_ ?_)<;>intro _
  simp [psL,pfl,prs,h1,h2,h4,h8]
theorem sp_ex (x y n:Int) (i:Nat):∃ p q:Int,∀ h,doCall E (callR E) 20 [.int .i64 x,.int .i64 y,.int .i64 n,.int .i64 i] h=some (.tuple [.int .i64 p,.int .i64 q],h):=by
  have h5:¬ (i:Int)<0:=by omega
  by_cases h1:x<0
  · iterate 2 apply Exists.intro
    intro h
    refine Zd (pf:=p20) rfl rfl rfl rfl (by simp [PV.lowL,PV.low]) (by simp [PV.low,PV.lowL]) ?_ h
    show kQ E _ (endQ [⟨8,none⟩,⟨9,none⟩] _) .norm { lvl:=0,tmps:=mk 53 [(0,.int .i64 x),(1,.int .i64 y),(2,.int .i64 n),(3,.int .i64 i)],heap:=[[]],defers:=[] }
    repeat' first|(with_reducible first|refine cS ?_ ?_|refine oS ?_ ?_|refine dS ?_ ?_)<;>intro _|((with_reducible refine kk ?_ ?_);·rfl)|simp -implicitDefEqProofs(disch:=first|omega|assumption)only[push_cast,simprocAttr,Zf,Ze,Zi,Zg,pos_ok,h1]|(with_reducible first|refine cB ?_ ?_|refine oB ?_ ?_|refine dB ?_ ?_)<;>intro _
    exact rfl
  by_cases h2:x≥64
  · iterate 2 apply Exists.intro
    intro h
    refine Zd (pf:=p20) rfl rfl rfl rfl (by simp [PV.lowL,PV.low]) (by simp [PV.low,PV.lowL]) ?_ h
    show kQ E _ (endQ [⟨8,none⟩,⟨9,none⟩] _) .norm { lvl:=0,tmps:=mk 53 [(0,.int .i64 x),(1,.int .i64 y),(2,.int .i64 n),(3,.int .i64 i)],heap:=[[]],defers:=[] }
    repeat' first|(with_reducible first|refine cS ?_ ?_|refine oS ?_ ?_|refine dS ?_ ?_)<;>intro _|((with_reducible refine kk ?_ ?_);·rfl)|simp -implicitDefEqProofs(disch:=first|omega|assumption)only[push_cast,simprocAttr,Zf,Ze,Zi,Zg,pos_ok,h1,h2]|(with_reducible first|refine cB ?_ ?_|refine oB ?_ ?_|refine dB ?_ ?_)<;>intro _
    exact rfl
  by_cases h3:y<0
  · iterate 2 apply Exists.intro
    intro h
    refine Zd (pf:=p20) rfl rfl rfl rfl (by simp [PV.lowL,PV.low]) (by simp [PV.low,PV.lowL]) ?_ h
    show kQ E _ (endQ [⟨8,none⟩,⟨9,none⟩] _) .norm { lvl:=0,tmps:=mk 53 [(0,.int .i64 x),(1,.int .i64 y),(2,.int .i64 n),(3,.int .i64 i)],heap:=[[]],defers:=[] }
    repeat' first|(with_reducible first|refine cS ?_ ?_|refine oS ?_ ?_|refine dS ?_ ?_)<;>intro _|((with_reducible refine kk ?_ ?_);·rfl)|simp -implicitDefEqProofs(disch:=first|omega|assumption)only[push_cast,simprocAttr,Zf,Ze,Zi,Zg,pos_ok,h1,h2,h3]|(with_reducible first|refine cB ?_ ?_|refine oB ?_ ?_|refine dB ?_ ?_)<;>intro _
    exact rfl
  by_cases h4:y≥64
  · iterate 2 apply Exists.intro
    intro h
    refine Zd (pf:=p20) rfl rfl rfl rfl (by simp [PV.lowL,PV.low]) (by simp [PV.low,PV.lowL]) ?_ h
    show kQ E _ (endQ [⟨8,none⟩,⟨9,none⟩] _) .norm { lvl:=0,tmps:=mk 53 [(0,.int .i64 x),(1,.int .i64 y),(2,.int .i64 n),(3,.int .i64 i)],heap:=[[]],defers:=[] }
    repeat' first|(with_reducible first|refine cS ?_ ?_|refine oS ?_ ?_|refine dS ?_ ?_)<;>intro _|((with_reducible refine kk ?_ ?_);·rfl)|simp -implicitDefEqProofs(disch:=first|omega|assumption)only[push_cast,simprocAttr,Zf,Ze,Zi,Zg,pos_ok,h1,h2,h3,h4]|(with_reducible first|refine cB ?_ ?_|refine oB ?_ ?_|refine dB ?_ ?_)<;>intro _
    exact rfl
  by_cases h6:(i:Int)≥(psL n).length
  · iterate 2 apply Exists.intro
    intro h
    refine Zd (pf:=p20) rfl rfl rfl rfl (by simp [PV.lowL,PV.low]) (by simp [PV.low,PV.lowL]) ?_ h
    show kQ E _ (endQ [⟨8,none⟩,⟨9,none⟩] _) .norm { lvl:=0,tmps:=mk 53 [(0,.int .i64 x),(1,.int .i64 y),(2,.int .i64 n),(3,.int .i64 i)],heap:=[[]],defers:=[] }
    repeat' first|(with_reducible first|refine cS ?_ ?_|refine oS ?_ ?_|refine dS ?_ ?_)<;>intro _|((with_reducible refine kk ?_ ?_);·rfl)|simp -implicitDefEqProofs(disch:=first|omega|assumption)only[push_cast,simprocAttr,Zf,Ze,Zi,Zg,pos_ok,h1,h2,h3,h4,h5,h6]|(with_reducible first|refine cB ?_ ?_|refine oB ?_ ?_|refine dB ?_ ?_)<;>intro _
    exact rfl
  have hg:=prs_at (l:=psL n) (i:=i) (by omega)
  iterate 2 apply Exists.intro
  intro h
  refine Zd (pf:=p20) rfl rfl rfl rfl (by simp [PV.lowL,PV.low]) (by simp [PV.low,PV.lowL]) ?_ h
  show kQ E _ (endQ [⟨8,none⟩,⟨9,none⟩] _) .norm { lvl:=0,tmps:=mk 53 [(0,.int .i64 x),(1,.int .i64 y),(2,.int .i64 n),(3,.int .i64 i)],heap:=[[]],defers:=[] }
  repeat' first|(with_reducible first|refine cS ?_ ?_|refine oS ?_ ?_|refine dS ?_ ?_)<;>intro _|((with_reducible refine kk ?_ ?_);·rfl)|simp -implicitDefEqProofs(disch:=first|omega|assumption)only[push_cast,simprocAttr,Zf,Ze,Zi,Zg,pos_ok,h1,h2,h3,h4,h5,h6,hg,stabG,stabS,Zv,Z5,Zu,Zp,Zs,Z3,Z4,Zt,Zq,Zn]|(with_reducible first|refine cB ?_ ?_|refine oB ?_ ?_|refine dB ?_ ?_)<;>intro _|with_reducible first|refine Zw ?_ ?_|refine Zx (by decide) ?_|refine Zy (by decide) ?_ ?_|exact Zz|refine Zr ?_|refine Zo ?_
  exact rfl
end Go.VI.S
