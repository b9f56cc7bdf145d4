/- Chapter 28: newBody. -/
import Derived.Test.YtjhaldbohblieaaGreatDoorMD
set_option maxRecDepth 100000
set_option linter.unusedSimpArgs false
set_option linter.unusedVariables false
set_option linter.unusedSectionVars false
namespace Go.VI.S
open Go.VI
section
def X9 (us:List Str) (l:List Str):List Str:=l.foldl (fun us a=>insL a us) us
theorem Tm {us a b:List Str}:X9 us (a++b)=X9 (X9 us a) b:=by simp [X9]
def gnL (m:Mod):List Str:=m.us.map Fld.name++m.ins.map Fld.name++m.outs.map Fld.name++(m.ts++m.bs)++m.ss.map Sct.name++m.fs.map Fun'.name
def gnS (m:Mod):List Str:=X9 [] (gnL m)
abbrev nbH (h0:Heap) (sc bd:Option Ob) (us:List Str) (c:Nat) (o3 o4 o5:Option Ob):Heap:=h0++[[sc,some (.map (kE us) c 1),bd,o3,o4,o5]]
abbrev bdO (m:Mod) (K g n:Nat) (ps:Int) (mn:Bool):Option Ob:=some (.mem [.agg [.int .i64 m.stage,.vs m.sf (scts m.ss),.vs m.uf (flds m.us),.vs m.tf (strs m.ts),.vs m.bf (strs m.bs),.vs m.nf (flds m.ins),.vs m.of (flds m.outs),.vs m.ff (funs m.fs),.vs m.mf m.main,.sl (K,0) g 0 n,.vs .nil [],.int .i64 ps,.bool mn,.int .i64 0,.int .i64 0,.map (K,1) 1]] 1 false 16)
set_option maxHeartbeats 4000000 in
theorem Ve (m:Mod) (l:List Fld) (hb:l.length≤1048576) {f:Fl} (h0:Heap) {sc o4 o5:Option Ob} {n0:Nat} {ps:Int} {mn:Bool} {v3 v33 v34 v35:PV} (fin:List Str) {ks:List KI} {Q:PEx→Fr→Prop}
    (hn:∀ t (us:List Str) (c:Nat) (o3:Option Ob),us=fin→(∀ k,obLow k o3=true)→look t 3=v3→look t 7=.ptr (h0.length,2) 1 0 0→look t 33=v33→look t 34=v34→look t 35=v35→kQ E ks Q .norm { lvl:=h0.length,tmps:=mk 99 t,heap:=nbH h0 sc (bdO m h0.length 1 n0 ps mn) us c o3 o4 o5,defers:=[] }) :
    ∀ (rest pre:List Fld) (us:List Str) (c:Nat) (o3:Option Ob) (t:List (Nat × PV)),l=pre++rest→(X9 us (rest.map Fld.name)=fin)→(∀ k,obLow k o3=true) →
      look t 3=v3→look t 7=.ptr (h0.length,2) 1 0 0→look t 33=v33→look t 34=v34→look t 35=v35→look t 39=.vs f (flds l)→look t 40=.int .i64 l.length→look t 41=.int .i64 pre.length →
      kQ E (.code p60l1::.blk 2::ks) Q .norm { lvl:=h0.length,tmps:=mk 99 t,heap:=nbH h0 sc (bdO m h0.length 1 n0 ps mn) us c o3 o4 o5,defers:=[] }:=by
  intro rest
  induction rest with
  | nil =>
    intro pre us c o3 t hl hi0 hi1 h3 h7 h33 h34 h35 h39 h40 h41
    have e:l.length=pre.length:=by rw [hl];simp
    refine loopK' (c:=p60l1) rfl ?_
    repeat' first|(with_reducible first|refine cS ?_ ?_|refine oS ?_ ?_|refine dS ?_ ?_)<;>intro _|((with_reducible refine kk ?_ ?_);·rfl)|simp -implicitDefEqProofs(disch:=first|omega|assumption)only[push_cast,simprocAttr,Zd,Zc,Ze,Zb,h3,h7,h33,h34,h35,h39,h40,h41,e]|(with_reducible first|refine cB ?_ ?_|refine oB ?_ ?_|refine dB ?_ ?_)<;>intro _
    exact hn _ _ _ _ hi0 hi1 (by simp [look,Za,h3]) (by simp [look,Za,h7]) (by simp [look,Za,h33]) (by simp [look,Za,h34]) (by simp [look,Za,h35])
  | cons s r ih =>
    intro pre us c o3 t hl hi0 hi1 h3 h7 h33 h34 h35 h39 h40 h41
    have e:l.length=pre.length+r.length+1:=by rw [hl];simp;omega
    have hg:(flds l)[pre.length]?=some (.agg [.str s.name,.int .i64 s.ty.kind,.str s.ty.name]):=by rw [hl];exact Yd _ _ _ _
    by_cases hin:s.name∈us
    · have hi:insL s.name us=us:=by simp [insL,hin]
      refine loopK' (c:=p60l1) rfl ?_
      repeat' first|(with_reducible first|refine cS ?_ ?_|refine oS ?_ ?_|refine dS ?_ ?_)<;>intro _|((with_reducible refine kk ?_ ?_);·rfl)|simp -implicitDefEqProofs(disch:=first|omega|assumption)only[push_cast,simprocAttr,Zd,Zc,Ze,Zb,h3,h7,h33,h34,h35,h39,h40,h41,hg,keyIs,Yj,set_kE,hin,hi,Option.getD_some,Option.isSome_some]|(with_reducible first|refine cB ?_ ?_|refine oB ?_ ?_|refine dB ?_ ?_)<;>intro _
      refine ih (pre++[s]) us _ _ _ (by simp [hl]) (by rw [← hi0,List.map_cons];show _=X9 (insL s.name us) _;rw [hi]) (by intro k;simp [obLow,PV.lowL,PV.low]) (by simp [look,Za,h3]) (by simp [look,Za,h7]) (by simp [look,Za,h33]) (by simp [look,Za,h34]) (by simp [look,Za,h35]) (by simp [look,Za,h39]) (by simp [look,Za,h40]) (by simp [look,Za,h41])
    · refine loopK' (c:=p60l1) rfl ?_
      repeat' first|(with_reducible first|refine cS ?_ ?_|refine oS ?_ ?_|refine dS ?_ ?_)<;>intro _|((with_reducible refine kk ?_ ?_);·rfl)|simp -implicitDefEqProofs(disch:=first|omega|assumption)only[push_cast,simprocAttr,Zd,Zc,Ze,Zb,h3,h7,h33,h34,h35,h39,h40,h41,hg,keyIs,Yj,set_kE,hin,Option.getD_none,Option.isSome_none]|(with_reducible first|refine cB ?_ ?_|refine oB ?_ ?_|refine dB ?_ ?_)<;>intro _
      refine ih (pre++[s]) (insL s.name us) _ _ _ (by simp [hl]) (by rw [← hi0,List.map_cons];rfl) (by intro k;simp [obLow,PV.lowL,PV.low]) (by simp [look,Za,h3]) (by simp [look,Za,h7]) (by simp [look,Za,h33]) (by simp [look,Za,h34]) (by simp [look,Za,h35]) (by simp [look,Za,h39]) (by simp [look,Za,h40]) (by simp [look,Za,h41])
set_option maxHeartbeats 4000000 in
theorem Tl (m:Mod) (l:List Str) (hb:l.length≤2097152) {f:Fl} (h0:Heap) {sc o3 o4 o5:Option Ob} {n0:Nat} {ps:Int} {mn:Bool} {v3:PV} (fin:List Str) {ks:List KI} {Q:PEx→Fr→Prop}
    (hn:∀ t (us:List Str) (c:Nat),us=fin→look t 3=v3→look t 7=.ptr (h0.length,2) 1 0 0→kQ E ks Q .norm { lvl:=h0.length,tmps:=mk 99 t,heap:=nbH h0 sc (bdO m h0.length 1 n0 ps mn) us c o3 o4 o5,defers:=[] }) :
    ∀ (rest pre:List Str) (us:List Str) (c:Nat) (t:List (Nat × PV)),l=pre++rest→(X9 us rest=fin) →
      look t 3=v3→look t 7=.ptr (h0.length,2) 1 0 0→look t 58=.vs f (strs l)→look t 59=.int .i64 l.length→look t 60=.int .i64 pre.length →
      kQ E (.code p60l2::.blk 4::ks) Q .norm { lvl:=h0.length,tmps:=mk 99 t,heap:=nbH h0 sc (bdO m h0.length 1 n0 ps mn) us c o3 o4 o5,defers:=[] }:=by
  intro rest
  induction rest with
  | nil =>
    intro pre us c t hl hi0 h3 h7 h58 h59 h60
    have e:l.length=pre.length:=by rw [hl];simp
    refine loopK' (c:=p60l2) rfl ?_
    repeat' first|(with_reducible first|refine cS ?_ ?_|refine oS ?_ ?_|refine dS ?_ ?_)<;>intro _|((with_reducible refine kk ?_ ?_);·rfl)|simp -implicitDefEqProofs(disch:=first|omega|assumption)only[push_cast,simprocAttr,Zd,Zc,Ze,Zb,h3,h7,h58,h59,h60,e]|(with_reducible first|refine cB ?_ ?_|refine oB ?_ ?_|refine dB ?_ ?_)<;>intro _
    exact hn _ _ _ hi0 (by simp [look,Za,h3]) (by simp [look,Za,h7])
  | cons s r ih =>
    intro pre us c t hl hi0 h3 h7 h58 h59 h60
    have e:l.length=pre.length+r.length+1:=by rw [hl];simp;omega
    have hg:(strs l)[pre.length]?=some (.str s):=by rw [hl];exact Yd _ _ _ _
    by_cases hin:s∈us
    · have hi:insL s us=us:=by simp [insL,hin]
      refine loopK' (c:=p60l2) rfl ?_
      repeat' first|(with_reducible first|refine cS ?_ ?_|refine oS ?_ ?_|refine dS ?_ ?_)<;>intro _|((with_reducible refine kk ?_ ?_);·rfl)|simp -implicitDefEqProofs(disch:=first|omega|assumption)only[push_cast,simprocAttr,Zd,Zc,Ze,Zb,h3,h7,h58,h59,h60,hg,keyIs,Yj,set_kE,hin,hi,Option.getD_some,Option.isSome_some]|(with_reducible first|refine cB ?_ ?_|refine oB ?_ ?_|refine dB ?_ ?_)<;>intro _
      refine ih (pre++[s]) us _ _ (by simp [hl]) (by rw [← hi0];show _=X9 (insL s us) _;rw [hi]) (by simp [look,Za,h3]) (by simp [look,Za,h7]) (by simp [look,Za,h58]) (by simp [look,Za,h59]) (by simp [look,Za,h60])
    · refine loopK' (c:=p60l2) rfl ?_
      repeat' first|(with_reducible first|refine cS ?_ ?_|refine oS ?_ ?_|refine dS ?_ ?_)<;>intro _|((with_reducible refine kk ?_ ?_);·rfl)|simp -implicitDefEqProofs(disch:=first|omega|assumption)only[push_cast,simprocAttr,Zd,Zc,Ze,Zb,h3,h7,h58,h59,h60,hg,keyIs,Yj,set_kE,hin,Option.getD_none,Option.isSome_none]|(with_reducible first|refine cB ?_ ?_|refine oB ?_ ?_|refine dB ?_ ?_)<;>intro _
      refine ih (pre++[s]) (insL s us) _ _ (by simp [hl]) (by rw [← hi0];rfl) (by simp [look,Za,h3]) (by simp [look,Za,h7]) (by simp [look,Za,h58]) (by simp [look,Za,h59]) (by simp [look,Za,h60])
set_option maxHeartbeats 4000000 in
theorem Tk (m:Mod) (l:List Sct) (hb:l.length≤1048576) {f:Fl} (h0:Heap) {sc o3 o5:Option Ob} {n0:Nat} {ps:Int} {mn:Bool} {v3:PV} (fin:List Str) {ks:List KI} {Q:PEx→Fr→Prop}
    (hn:∀ t (us:List Str) (c:Nat) (o4:Option Ob),us=fin→(∀ k,obLow k o4=true)→look t 3=v3→look t 7=.ptr (h0.length,2) 1 0 0→kQ E ks Q .norm { lvl:=h0.length,tmps:=mk 99 t,heap:=nbH h0 sc (bdO m h0.length 1 n0 ps mn) us c o3 o4 o5,defers:=[] }) :
    ∀ (rest pre:List Sct) (us:List Str) (c:Nat) (o4:Option Ob) (t:List (Nat × PV)),l=pre++rest→(X9 us (rest.map Sct.name)=fin)→(∀ k,obLow k o4=true) →
      look t 3=v3→look t 7=.ptr (h0.length,2) 1 0 0→look t 71=.vs f (scts l)→look t 72=.int .i64 l.length→look t 73=.int .i64 pre.length →
      kQ E (.code p60l3::.blk 6::ks) Q .norm { lvl:=h0.length,tmps:=mk 99 t,heap:=nbH h0 sc (bdO m h0.length 1 n0 ps mn) us c o3 o4 o5,defers:=[] }:=by
  intro rest
  induction rest with
  | nil =>
    intro pre us c o4 t hl hi0 hi1 h3 h7 h71 h72 h73
    have e:l.length=pre.length:=by rw [hl];simp
    refine loopK' (c:=p60l3) rfl ?_
    repeat' first|(with_reducible first|refine cS ?_ ?_|refine oS ?_ ?_|refine dS ?_ ?_)<;>intro _|((with_reducible refine kk ?_ ?_);·rfl)|simp -implicitDefEqProofs(disch:=first|omega|assumption)only[push_cast,simprocAttr,Zd,Zc,Ze,Zb,h3,h7,h71,h72,h73,e]|(with_reducible first|refine cB ?_ ?_|refine oB ?_ ?_|refine dB ?_ ?_)<;>intro _
    exact hn _ _ _ _ hi0 hi1 (by simp [look,Za,h3]) (by simp [look,Za,h7])
  | cons s r ih =>
    intro pre us c o4 t hl hi0 hi1 h3 h7 h71 h72 h73
    have e:l.length=pre.length+r.length+1:=by rw [hl];simp;omega
    have hg:(scts l)[pre.length]?=some (.agg [.str s.name,.vs s.fl (flds s.fs)]):=by rw [hl];exact Yd _ _ _ _
    by_cases hin:s.name∈us
    · have hi:insL s.name us=us:=by simp [insL,hin]
      refine loopK' (c:=p60l3) rfl ?_
      repeat' first|(with_reducible first|refine cS ?_ ?_|refine oS ?_ ?_|refine dS ?_ ?_)<;>intro _|((with_reducible refine kk ?_ ?_);·rfl)|simp -implicitDefEqProofs(disch:=first|omega|assumption)only[push_cast,simprocAttr,Zd,Zc,Ze,Zb,h3,h7,h71,h72,h73,hg,keyIs,Yj,set_kE,hin,hi,Option.getD_some,Option.isSome_some]|(with_reducible first|refine cB ?_ ?_|refine oB ?_ ?_|refine dB ?_ ?_)<;>intro _
      refine ih (pre++[s]) us _ _ _ (by simp [hl]) (by rw [← hi0,List.map_cons];show _=X9 (insL s.name us) _;rw [hi]) (by intro k;simp [obLow,PV.lowL,PV.low]) (by simp [look,Za,h3]) (by simp [look,Za,h7]) (by simp [look,Za,h71]) (by simp [look,Za,h72]) (by simp [look,Za,h73])
    · refine loopK' (c:=p60l3) rfl ?_
      repeat' first|(with_reducible first|refine cS ?_ ?_|refine oS ?_ ?_|refine dS ?_ ?_)<;>intro _|((with_reducible refine kk ?_ ?_);·rfl)|simp -implicitDefEqProofs(disch:=first|omega|assumption)only[push_cast,simprocAttr,Zd,Zc,Ze,Zb,h3,h7,h71,h72,h73,hg,keyIs,Yj,set_kE,hin,Option.getD_none,Option.isSome_none]|(with_reducible first|refine cB ?_ ?_|refine oB ?_ ?_|refine dB ?_ ?_)<;>intro _
      refine ih (pre++[s]) (insL s.name us) _ _ _ (by simp [hl]) (by rw [← hi0,List.map_cons];rfl) (by intro k;simp [obLow,PV.lowL,PV.low]) (by simp [look,Za,h3]) (by simp [look,Za,h7]) (by simp [look,Za,h71]) (by simp [look,Za,h72]) (by simp [look,Za,h73])
set_option maxHeartbeats 4000000 in
theorem Tj (m:Mod) (l:List Fun') (hb:l.length≤1048576) {f:Fl} (h0:Heap) {sc o3 o4:Option Ob} {n0:Nat} {ps:Int} {mn:Bool} (fin:List Str) {ks:List KI} {Q:PEx→Fr→Prop}
    (hn:∀ t (us:List Str) (c:Nat) (o5:Option Ob),us=fin→(∀ k,obLow k o5=true)→look t 7=.ptr (h0.length,2) 1 0 0→kQ E ks Q .norm { lvl:=h0.length,tmps:=mk 99 t,heap:=nbH h0 sc (bdO m h0.length 1 n0 ps mn) us c o3 o4 o5,defers:=[] }) :
    ∀ (rest pre:List Fun') (us:List Str) (c:Nat) (o5:Option Ob) (t:List (Nat × PV)),l=pre++rest→(X9 us (rest.map Fun'.name)=fin)→(∀ k,obLow k o5=true) →
      look t 7=.ptr (h0.length,2) 1 0 0→look t 85=.vs f (funs l)→look t 86=.int .i64 l.length→look t 87=.int .i64 pre.length →
      kQ E (.code p60l4::.blk 8::ks) Q .norm { lvl:=h0.length,tmps:=mk 99 t,heap:=nbH h0 sc (bdO m h0.length 1 n0 ps mn) us c o3 o4 o5,defers:=[] }:=by
  intro rest
  induction rest with
  | nil =>
    intro pre us c o5 t hl hi0 hi1 h7 h85 h86 h87
    have e:l.length=pre.length:=by rw [hl];simp
    refine loopK' (c:=p60l4) rfl ?_
    repeat' first|(with_reducible first|refine cS ?_ ?_|refine oS ?_ ?_|refine dS ?_ ?_)<;>intro _|((with_reducible refine kk ?_ ?_);·rfl)|simp -implicitDefEqProofs(disch:=first|omega|assumption)only[push_cast,simprocAttr,Zd,Zc,Ze,Zb,h7,h85,h86,h87,e]|(with_reducible first|refine cB ?_ ?_|refine oB ?_ ?_|refine dB ?_ ?_)<;>intro _
    exact hn _ _ _ _ hi0 hi1 (by simp [look,Za,h7])
  | cons s r ih =>
    intro pre us c o5 t hl hi0 hi1 h7 h85 h86 h87
    have e:l.length=pre.length+r.length+1:=by rw [hl];simp;omega
    have hg:(funs l)[pre.length]?=some (.agg [.str s.name,.vs s.fl (flds s.ps),.int .i64 s.res.kind,.str s.res.name,.vs s.fb (sts s.bodyS),.int .i64 s.retE.kind,.int .i64 s.retE.op,.str s.retE.name,.int .i64 s.retE.value,.vs s.retE.fl (exs s.retE.args)]):=by rw [hl,← s.v10];exact Yd _ _ _ _
    by_cases hin:s.name∈us
    · have hi:insL s.name us=us:=by simp [insL,hin]
      refine loopK' (c:=p60l4) rfl ?_
      repeat' first|(with_reducible first|refine cS ?_ ?_|refine oS ?_ ?_|refine dS ?_ ?_)<;>intro _|((with_reducible refine kk ?_ ?_);·rfl)|simp -implicitDefEqProofs(disch:=first|omega|assumption)only[push_cast,simprocAttr,Zd,Zc,Ze,Zb,h7,h85,h86,h87,hg,keyIs,Yj,set_kE,hin,hi,Option.getD_some,Option.isSome_some]|(with_reducible first|refine cB ?_ ?_|refine oB ?_ ?_|refine dB ?_ ?_)<;>intro _
      refine ih (pre++[s]) us _ _ _ (by simp [hl]) (by rw [← hi0,List.map_cons];show _=X9 (insL s.name us) _;rw [hi]) (by intro k;simp [obLow,PV.lowL,PV.low]) (by simp [look,Za,h7]) (by simp [look,Za,h85]) (by simp [look,Za,h86]) (by simp [look,Za,h87])
    · refine loopK' (c:=p60l4) rfl ?_
      repeat' first|(with_reducible first|refine cS ?_ ?_|refine oS ?_ ?_|refine dS ?_ ?_)<;>intro _|((with_reducible refine kk ?_ ?_);·rfl)|simp -implicitDefEqProofs(disch:=first|omega|assumption)only[push_cast,simprocAttr,Zd,Zc,Ze,Zb,h7,h85,h86,h87,hg,keyIs,Yj,set_kE,hin,Option.getD_none,Option.isSome_none]|(with_reducible first|refine cB ?_ ?_|refine oB ?_ ?_|refine dB ?_ ?_)<;>intro _
      refine ih (pre++[s]) (insL s.name us) _ _ _ (by simp [hl]) (by rw [← hi0,List.map_cons];rfl) (by intro k;simp [obLow,PV.lowL,PV.low]) (by simp [look,Za,h7]) (by simp [look,Za,h85]) (by simp [look,Za,h86]) (by simp [look,Za,h87])
theorem U2 (m:Mod) (l:List Fld) (hb:l.length≤1048576) {f:Fl} (h0:Heap) {sc o4 o5:Option Ob} {n0:Nat} {ps:Int} {mn:Bool} {v3 v33 v34 v35:PV} (fin:List Str) {ks:List KI} {Q:PEx→Fr→Prop}
    (hn:∀ t (us:List Str) (c:Nat) (o3:Option Ob),us=fin→(∀ k,obLow k o3=true)→look t 3=v3→look t 7=.ptr (h0.length,2) 1 0 0→look t 33=v33→look t 34=v34→look t 35=v35→kQ E ks Q .norm { lvl:=h0.length,tmps:=mk 99 t,heap:=nbH h0 sc (bdO m h0.length 1 n0 ps mn) us c o3 o4 o5,defers:=[] })
    (t:List (Nat × PV)) (hf:X9 [] (l.map Fld.name)=fin) (h3:look t 3=v3) (h7:look t 7=.ptr (h0.length,2) 1 0 0) (h33:look t 33=v33) (h34:look t 34=v34) (h35:look t 35=v35) (h39:look t 39=.vs f (flds l)) (h40:look t 40=.int .i64 l.length) (h41:look t 41=.int .i64 (0:Nat)) :
    kQ E (.code p60l1::.blk 2::ks) Q .norm { lvl:=h0.length,tmps:=mk 99 t,heap:=h0++[[sc,some (.map [] 0 1),bdO m h0.length 1 n0 ps mn,none,o4,o5]],defers:=[] } :=
  Ve m l hb h0 fin hn l [] [] 0 none t rfl hf (fun _=>rfl) h3 h7 h33 h34 h35 h39 h40 h41
theorem Re {n:Nm} {g:Nat}:PV.same (.map n g) (.map n g)=true:=by simp [PV.same]
set_option maxHeartbeats 8000000 in
theorem Uq (m:Mod) (hm:m.Ok) (f:Fl) (ps:List Fld) (hp:ps.length≤1048576) (mn:Bool) (h0:Heap) :
    ∃ c o3 o4 o5,doCall E (callR E) 60 [.agg m.c,.vs f (flds ps),.bool mn] h0=some (.ptr (h0.length,2) 1 0 0,h0++[bdL m h0.length (gnS m) c ps.length mn [o3,o4,o5] ps 1 ps.length .nil [] 0 0])∧∀ k,[o3,o4,o5].all (obLow k)=true:=by
  have h1:=m.hm
  have hss:=hm.ss
  have hfs:=hm.fs
  have key:∀ P:PV→Heap→Prop,(∀ c o3 o4 o5,(∀ k,[o3,o4,o5].all (obLow k)=true)→P (.ptr (h0.length,2) 1 0 0) (h0++[bdL m h0.length (gnS m) c ps.length mn [o3,o4,o5] ps 1 ps.length .nil [] 0 0])) →
      ∃ rr H,doCall E (callR E) 60 [.agg m.c,.vs f (flds ps),.bool mn] h0=some (rr,H)∧P rr H:=by
    intro P hP
    refine call_keep (pf:=p60) rfl rfl rfl rfl rfl ?_
    show kQ E _ (endK [⟨6,none⟩] _) .norm { lvl:=h0.length,tmps:=mk 99 [(0,.agg m.c),(1,.vs f (flds ps)),(2,.bool mn)],heap:=h0++[[none,none,none,none,none,none]],defers:=[] }
    repeat' first|(with_reducible first|refine cS ?_ ?_|refine oS ?_ ?_|refine dS ?_ ?_)<;>intro _|((with_reducible refine kk ?_ ?_);·rfl)|simp -implicitDefEqProofs(disch:=first|omega|assumption)only[push_cast,simprocAttr,Zd,Zc,Ze,Zb,h1,Xr,Xs,Vb,Y5,Th,Tg,Vk,W4,Yv,Yq,Yp,Yo,Yh,Yx,Yi,stable,Re,hp,stabG,stabS,Z1,Yb,Z0,Zt,Zy,Z9,Ya,Zz,Zu,Zp]|(with_reducible first|refine cB ?_ ?_|refine oB ?_ ?_|refine dB ?_ ?_)<;>intro _|with_reducible first|refine Z2 ?_ ?_|refine Z3 (by decide) ?_|refine Z4 (by decide) ?_ ?_|exact Z5|refine Zx ?_|refine Zq ?_
    refine loopK' (c:=p60l0) rfl ?_
    repeat' first|(with_reducible first|refine cS ?_ ?_|refine oS ?_ ?_|refine dS ?_ ?_)<;>intro _|((with_reducible refine kk ?_ ?_);·rfl)|simp -implicitDefEqProofs(disch:=first|omega|assumption)only[push_cast,simprocAttr,Zd,Zc,Ze,Zb]|(with_reducible first|refine cB ?_ ?_|refine oB ?_ ?_|refine dB ?_ ?_)<;>intro _
    with_reducible refine U2 m m.us hm.us (f:=m.uf) h0 (X9 [] (m.us.map Fld.name)) (v3:=.ip m.c) (v33:=(.vs .clip [.vs m.uf (flds m.us),.vs m.nf (flds m.ins),.vs m.of (flds m.outs)])) (v34:=.int .i64 3) (v35:=.int .i64 0) ?_ _ rfl (by simp [look,Za]) (by simp [look,Za]) (by simp [look,Za]) (by simp [look,Za]) (by simp [look,Za]) (by simp [look,Za]) (by simp [look,Za]) (by simp [look,Za])
    intro t0 us0 c0 o30 e0 hk0 q3_0 q7_0 q33_0 q34_0 q35_0
    subst e0
    repeat' first|(with_reducible first|refine cS ?_ ?_|refine oS ?_ ?_|refine dS ?_ ?_)<;>intro _|((with_reducible refine kk ?_ ?_);·rfl)|simp -implicitDefEqProofs(disch:=first|omega|assumption)only[push_cast,simprocAttr,Zd,Zc,Ze,Zb,q3_0,q7_0,q33_0,q34_0,q35_0]|(with_reducible first|refine cB ?_ ?_|refine oB ?_ ?_|refine dB ?_ ?_)<;>intro _
    refine loopK' (c:=p60l0) rfl ?_
    repeat' first|(with_reducible first|refine cS ?_ ?_|refine oS ?_ ?_|refine dS ?_ ?_)<;>intro _|((with_reducible refine kk ?_ ?_);·rfl)|simp -implicitDefEqProofs(disch:=first|omega|assumption)only[push_cast,simprocAttr,Zd,Zc,Ze,Zb,q3_0,q7_0,q33_0,q34_0,q35_0]|(with_reducible first|refine cB ?_ ?_|refine oB ?_ ?_|refine dB ?_ ?_)<;>intro _
    with_reducible refine Ve m m.ins hm.ins (f:=m.nf) h0 (X9 (X9 [] (m.us.map Fld.name)) (m.ins.map Fld.name)) (v3:=.ip m.c) (v33:=(.vs .clip [.vs m.uf (flds m.us),.vs m.nf (flds m.ins),.vs m.of (flds m.outs)])) (v34:=.int .i64 3) (v35:=.int .i64 1) ?_ m.ins [] (X9 [] (m.us.map Fld.name)) _ _ _ rfl rfl hk0 (by simp [look,Za, *]) (by simp [look,Za, *]) (by simp [look,Za, *]) (by simp [look,Za, *]) (by simp [look,Za, *]) (by simp [look,Za, *]) (by simp [look,Za, *]) (by simp [look,Za, *])
    intro t1 us1 c1 o31 e1 hk1 q3_1 q7_1 q33_1 q34_1 q35_1
    subst e1
    repeat' first|(with_reducible first|refine cS ?_ ?_|refine oS ?_ ?_|refine dS ?_ ?_)<;>intro _|((with_reducible refine kk ?_ ?_);·rfl)|simp -implicitDefEqProofs(disch:=first|omega|assumption)only[push_cast,simprocAttr,Zd,Zc,Ze,Zb,q3_1,q7_1,q33_1,q34_1,q35_1]|(with_reducible first|refine cB ?_ ?_|refine oB ?_ ?_|refine dB ?_ ?_)<;>intro _
    refine loopK' (c:=p60l0) rfl ?_
    repeat' first|(with_reducible first|refine cS ?_ ?_|refine oS ?_ ?_|refine dS ?_ ?_)<;>intro _|((with_reducible refine kk ?_ ?_);·rfl)|simp -implicitDefEqProofs(disch:=first|omega|assumption)only[push_cast,simprocAttr,Zd,Zc,Ze,Zb,q3_1,q7_1,q33_1,q34_1,q35_1]|(with_reducible first|refine cB ?_ ?_|refine oB ?_ ?_|refine dB ?_ ?_)<;>intro _
    with_reducible refine Ve m m.outs hm.outs (f:=m.of) h0 (X9 (X9 (X9 [] (m.us.map Fld.name)) (m.ins.map Fld.name)) (m.outs.map Fld.name)) (v3:=.ip m.c) (v33:=(.vs .clip [.vs m.uf (flds m.us),.vs m.nf (flds m.ins),.vs m.of (flds m.outs)])) (v34:=.int .i64 3) (v35:=.int .i64 2) ?_ m.outs [] (X9 (X9 [] (m.us.map Fld.name)) (m.ins.map Fld.name)) _ _ _ rfl rfl hk1 (by simp [look,Za, *]) (by simp [look,Za, *]) (by simp [look,Za, *]) (by simp [look,Za, *]) (by simp [look,Za, *]) (by simp [look,Za, *]) (by simp [look,Za, *]) (by simp [look,Za, *])
    intro t2 us2 c2 o32 e2 hk2 q3_2 q7_2 q33_2 q34_2 q35_2
    subst e2
    repeat' first|(with_reducible first|refine cS ?_ ?_|refine oS ?_ ?_|refine dS ?_ ?_)<;>intro _|((with_reducible refine kk ?_ ?_);·rfl)|simp -implicitDefEqProofs(disch:=first|omega|assumption)only[push_cast,simprocAttr,Zd,Zc,Ze,Zb,q3_2,q7_2,q33_2,q34_2,q35_2]|(with_reducible first|refine cB ?_ ?_|refine oB ?_ ?_|refine dB ?_ ?_)<;>intro _
    have hcc:=fun h=>cc_ok m.tf m.bf m.ts m.bs hm.ts hm.bs h
    have htb:(m.ts++m.bs).length≤2097152:=by
      have:=hm.ts
      have:=hm.bs
      simp
      omega
    refine loopK' (c:=p60l0) rfl ?_
    repeat' first|(with_reducible first|refine cS ?_ ?_|refine oS ?_ ?_|refine dS ?_ ?_)<;>intro _|((with_reducible refine kk ?_ ?_);·rfl)|simp -implicitDefEqProofs(disch:=first|omega|assumption)only[push_cast,simprocAttr,Zd,Zc,Ze,Zb,q3_2,q7_2,q33_2,q34_2,q35_2,hcc]|(with_reducible first|refine cB ?_ ?_|refine oB ?_ ?_|refine dB ?_ ?_)<;>intro _
    with_reducible refine Tl m (m.ts++m.bs) htb (f:=.any) h0 (X9 (X9 (X9 (X9 [] (m.us.map Fld.name)) (m.ins.map Fld.name)) (m.outs.map Fld.name)) (m.ts++m.bs)) (v3:=.ip m.c) ?_ (m.ts++m.bs) [] (X9 (X9 (X9 [] (m.us.map Fld.name)) (m.ins.map Fld.name)) (m.outs.map Fld.name)) _ _ rfl rfl (by simp [look,Za, *]) (by simp [look,Za, *]) (by simp [look,Za, *]) (by simp [look,Za, *]) (by simp [look,Za, *])
    intro t3 us3 c3 e3 q3_3 q7_3
    subst e3
    repeat' first|(with_reducible first|refine cS ?_ ?_|refine oS ?_ ?_|refine dS ?_ ?_)<;>intro _|((with_reducible refine kk ?_ ?_);·rfl)|simp -implicitDefEqProofs(disch:=first|omega|assumption)only[push_cast,simprocAttr,Zd,Zc,Ze,Zb,q3_3,q7_3]|(with_reducible first|refine cB ?_ ?_|refine oB ?_ ?_|refine dB ?_ ?_)<;>intro _
    with_reducible refine Tk m m.ss hm.ss (f:=m.sf) h0 (X9 (X9 (X9 (X9 (X9 [] (m.us.map Fld.name)) (m.ins.map Fld.name)) (m.outs.map Fld.name)) (m.ts++m.bs)) (m.ss.map Sct.name)) (v3:=.ip m.c) ?_ m.ss [] (X9 (X9 (X9 (X9 [] (m.us.map Fld.name)) (m.ins.map Fld.name)) (m.outs.map Fld.name)) (m.ts++m.bs)) _ none _ rfl rfl (fun _=>rfl) (by simp [look,Za, *]) (by simp [look,Za, *]) (by simp [look,Za, *]) (by simp [look,Za, *]) (by simp [look,Za, *])
    intro t4 us4 c4 o4 e4 hk4 q3_4 q7_4
    subst e4
    repeat' first|(with_reducible first|refine cS ?_ ?_|refine oS ?_ ?_|refine dS ?_ ?_)<;>intro _|((with_reducible refine kk ?_ ?_);·rfl)|simp -implicitDefEqProofs(disch:=first|omega|assumption)only[push_cast,simprocAttr,Zd,Zc,Ze,Zb,q3_4,q7_4]|(with_reducible first|refine cB ?_ ?_|refine oB ?_ ?_|refine dB ?_ ?_)<;>intro _
    with_reducible refine Tj m m.fs hm.fs (f:=m.ff) h0 (X9 (X9 (X9 (X9 (X9 (X9 [] (m.us.map Fld.name)) (m.ins.map Fld.name)) (m.outs.map Fld.name)) (m.ts++m.bs)) (m.ss.map Sct.name)) (m.fs.map Fun'.name)) ?_ m.fs [] (X9 (X9 (X9 (X9 (X9 [] (m.us.map Fld.name)) (m.ins.map Fld.name)) (m.outs.map Fld.name)) (m.ts++m.bs)) (m.ss.map Sct.name)) _ none _ rfl rfl (fun _=>rfl) (by simp [look,Za, *]) (by simp [look,Za, *]) (by simp [look,Za, *]) (by simp [look,Za, *])
    intro t5 us5 c5 o5 e5 hk5 q7_5
    subst e5
    repeat' first|(with_reducible first|refine cS ?_ ?_|refine oS ?_ ?_|refine dS ?_ ?_)<;>intro _|((with_reducible refine kk ?_ ?_);·rfl)|simp -implicitDefEqProofs(disch:=first|omega|assumption)only[push_cast,simprocAttr,Zd,Zc,Ze,Zb,q7_5]|(with_reducible first|refine cB ?_ ?_|refine oB ?_ ?_|refine dB ?_ ?_)<;>intro _
    have hgn:gnS m=X9 (X9 (X9 (X9 (X9 (X9 [] (m.us.map Fld.name)) (m.ins.map Fld.name)) (m.outs.map Fld.name)) (m.ts++m.bs)) (m.ss.map Sct.name)) (m.fs.map Fun'.name):=by simp only [gnS,gnL,Tm]
    refine endK_ret (Wg rfl) ?_
    have:=hP c5 o32 o4 o5 (fun k=>by simp only [List.all_cons,List.all_nil,hk2,hk4,hk5,Bool.and_true])
    rw [hgn] at this
    exact this
  obtain ⟨rr,H,hd,c,o3,o4,o5,rfl,rfl,hk⟩:=key (fun rr H=>∃ c o3 o4 o5,rr=.ptr (h0.length,2) 1 0 0∧H=h0++[bdL m h0.length (gnS m) c ps.length mn [o3,o4,o5] ps 1 ps.length .nil [] 0 0]∧∀ k,[o3,o4,o5].all (obLow k)=true) fun c o3 o4 o5 hk=>⟨c,o3,o4,o5,rfl,rfl,hk⟩
  exact ⟨c,o3,o4,o5,hd,hk⟩
end
section
theorem LowZ.start {h0:Heap} {B3:List (Option Ob)} (h:heapLow (h0.length+1) h0=true) (hb:∀ k,B3.all (obLow k)=true):LowZ h0 [] B3:=⟨h,rfl,hb _⟩
theorem T3 (m:Mod) (us:List Str) (c:Nat) (o2:List (Option Ob)) (H:Heap) (hlo:LowH H o2) (k:Nat) (hk:H.length+1≤k):heapLow k ((usO us c::ckO m::o2)::H)=true:=by
  obtain ⟨j,rfl⟩:=Nat.exists_eq_add_of_le hk
  induction j with
  | zero =>
    have h1:=hlo.hr
    have h2:=hlo.ho
    have hck:=X5 m H.length
    have hus:=Xl us c (H.length+1)
    show ((usO us c::ckO m::o2).all (obLow (H.length+1))&&heapLow (H.length+1) H)=true
    rw [h1,List.all_cons,List.all_cons,hus,hck,h2]
    rfl
  | succ j ih=>exact heapLow_s (ih (by omega))
def Vr (m:Mod):Int:=(Wa m (gnS m) 0 true 0 [] m.mainS).1
set_option maxHeartbeats 8000000 in
theorem T2 (m:Mod) (hm:m.Ok) (hz:m.OkZ) (us:List Str) (c:Nat) (o2:List (Option Ob)) (H:Heap) (hlo:LowH H o2) :
    doCall E (callR E) 38 [.ptr (0,1) 1 0 0] ((usO us c::ckO m::o2)::H)=some (.int .i64 (Vr m),(usO us c::ckO m::o2)::H):=by
  have hr:=hlo.hr
  have ho:=hlo.ho
  have hck:=X5 m H.length
  have hus:=Xl
  have h1:=m.hm
  have e0:m.main=sts m.mainS:=rfl
  have hsz:szS m.mainS≤1048576:=by have:=hz.tot;omega
  obtain ⟨cg,o3,o4,o5,hq,hk⟩:=Uq m hm .nil [] (by simp) true ((usO us c::ckO m::o2)::(H++[[]]))
  obtain ⟨el',g',fl',la',hb,_⟩:=Uy m hm (gnS m) cg 0 true [o3,o4,o5] ((usO us c::ckO m::o2)::(H++[[]])) m.mainS hsz m.mf [] (LowZ.start (T3 m us c o2 (H++[[]]) (hlo.push rfl) _ (by simp)) hk) [] 1 0 .nil [] (by simpa using hsz) (Nat.le_refl _)
  have hq':doCall E (callR E) 60 [.agg m.c,.vs .nil [],.bool true] ((usO us c::ckO m::o2)::(H++[[]]))=some (.ptr (H.length+2,2) 1 0 0,(usO us c::ckO m::o2)::(H++[[]]++[bdL m (H.length+2) (gnS m) cg 0 true [o3,o4,o5] [] 1 0 .nil [] 0 0])):=by
    have e:((usO us c::ckO m::o2)::(H++[[]])).length=H.length+2:=by simp
    rw [e] at hq
    exact hq
  have hb':doCall E (callR E) 62 [.ptr (H.length+2,2) 1 0 0,.vs m.mf m.main] ((usO us c::ckO m::o2)::(H++[[]]++[bdL m (H.length+2) (gnS m) cg 0 true [o3,o4,o5] [] 1 0 .nil [] 0 0]))=some (.int .i64 (Vr m),(usO us c::ckO m::o2)::(H++[[]]++[bdL m (H.length+2) (gnS m) cg 0 true [o3,o4,o5] el' g' 0 fl' la' 0 0])):=by
    have e:((usO us c::ckO m::o2)::(H++[[]])).length=H.length+2:=by simp
    unfold zH at hb
    rw [e] at hb
    exact hb
  have tk:∀ B:List (Option Ob),((usO us c::ckO m::o2)::(H++[[]]++[B])).take (H.length+1)=(usO us c::ckO m::o2)::H:=fun B=>by simp
  refine Z7 (pf:=p38) rfl rfl rfl rfl rfl (by simp [PV.lowL,PV.low]) ?_
  show kQ E _ (endM [⟨2,none⟩] _ _ _) .norm { lvl:=H.length+1,tmps:=mk 14 [(0,.ptr (0,1) 1 0 0)],heap:=(usO us c::ckO m::o2)::(H++[[]]),defers:=[] }
  repeat' first|(with_reducible first|refine cS ?_ ?_|refine oS ?_ ?_|refine dS ?_ ?_)<;>intro _|((with_reducible refine kk ?_ ?_);·rfl)|simp -implicitDefEqProofs(disch:=first|omega|assumption)only[push_cast,simprocAttr,Zd,Zc,Ze,Zb,h1,hq',hb',tk,Zm,allMarks,hck,hus,hr,ho,List.all_cons,Yv,Yq,Yp,Yo,Yh,Yx,Yi,stabG,stabS,Z1,Yb,Z0,Zt,Zy,Z9,Ya,Zz,Zu,Zp]|(with_reducible first|refine cB ?_ ?_|refine oB ?_ ?_|refine dB ?_ ?_)<;>intro _|with_reducible first|refine Z2 ?_ ?_|refine Z3 (by decide) ?_|refine Z4 (by decide) ?_ ?_|exact Z5|refine Zx ?_|refine Zq ?_
  all_goals trace_state
end
section
def Vd (ss:List Sct) (us:List Str):List Fld→List Str→Int
  | [],_=>0
  | p::r,ns=>if nameF p.name=true∧p.name ∉ us∧p.name ∉ ns then (if validF ss p.ty=true then Vd ss us r (insL p.name ns) else 12) else 13
theorem zd_b {h0 r:Heap} {B:List (Option Ob)}:(h0++B::r).getD h0.length []=B:=by simp
attribute [push_cast] zd_b
abbrev fH (m:Mod) (us:List Str) (c:Nat) (o2:List (Option Ob)) (H:Heap) (L:List (Option Ob)) (X:Heap):Heap:=(usO us c::ckO m::o2)::(H++L::X)
set_option maxHeartbeats 8000000 in
theorem Ts (m:Mod) (hm:m.Ok) (fs:List Fld) (hb:fs.length≤1048576) {f:Fl} {us:List Str} {c:Nat} {o2:List (Option Ob)} {H X:Heap} {sO oA oT:Option Ob} {gm:Nat} {v3 v4 v17 v18 v19:PV} (fin:Int) {ks:List KI} {Q:PEx→Fr→Prop}
    (hr:∀ t (ns:List Str) (cn:Nat) (oP:Option Ob),fin≠0→look t 2=.int .i64 fin→kQ E ks Q .ret { lvl:=H.length+1,tmps:=mk 134 t,heap:=fH m us c o2 H [sO,nsO ns cn gm,oP,oA,oT] X,defers:=[] })
    (hn:∀ t (ns:List Str) (cn:Nat) (oP:Option Ob),fin=0→(∀ k,obLow k oP=true)→look t 0=.ptr (0,1) 1 0 0→look t 3=v3→look t 4=v4→look t 17=v17→look t 18=v18→look t 19=v19→kQ E ks Q .norm { lvl:=H.length+1,tmps:=mk 134 t,heap:=fH m us c o2 H [sO,nsO ns cn gm,oP,oA,oT] X,defers:=[] }) :
    ∀ (rest pre:List Fld) (ns:List Str) (cn:Nat) (oP:Option Ob) (t:List (Nat × PV)),fs=pre++rest→(Vd m.ss us rest ns=fin)→(∀ k,obLow k oP=true) →
      look t 0=.ptr (0,1) 1 0 0→look t 3=v3→look t 4=v4→look t 6=.map (H.length+1,1) gm→look t 17=v17→look t 18=v18→look t 19=v19→look t 37=.vs f (flds fs)→look t 38=.int .i64 fs.length→look t 39=.int .i64 pre.length →
      kQ E (.code p37l1::.blk 2::ks) Q .norm { lvl:=H.length+1,tmps:=mk 134 t,heap:=fH m us c o2 H [sO,nsO ns cn gm,oP,oA,oT] X,defers:=[] }:=by
  intro rest
  have vq:=fun t h=>valid_ok m.sf m.ss hm.ss t h
  have hss:=hm.ss
  induction rest with
  | nil =>
    intro pre ns cn oP t hl hi0 hi1 h0 h3 h4 h6 h17 h18 h19 h37 h38 h39
    have e:fs.length=pre.length:=by rw [hl];simp
    refine loopK' (c:=p37l1) rfl ?_
    repeat' first|(with_reducible first|refine cS ?_ ?_|refine oS ?_ ?_|refine dS ?_ ?_)<;>intro _|((with_reducible refine kk ?_ ?_);·rfl)|simp -implicitDefEqProofs(disch:=first|omega|assumption)only[push_cast,simprocAttr,Zd,Zc,Ze,Zb,h0,h3,h4,h6,h17,h18,h19,h37,h38,h39,e]|(with_reducible first|refine cB ?_ ?_|refine oB ?_ ?_|refine dB ?_ ?_)<;>intro _
    exact hn _ _ _ _ (by rw [← hi0];rfl) hi1 (by simp [look,Za,h0]) (by simp [look,Za,h3]) (by simp [look,Za,h4]) (by simp [look,Za,h17]) (by simp [look,Za,h18]) (by simp [look,Za,h19])
  | cons s r ih =>
    intro pre ns cn oP t hl hi0 hi1 h0 h3 h4 h6 h17 h18 h19 h37 h38 h39
    have e:fs.length=pre.length+r.length+1:=by rw [hl];simp;omega
    have hg:(flds fs)[pre.length]?=some (.agg [.str s.name,.int .i64 s.ty.kind,.str s.ty.name]):=by rw [hl];exact Yd _ _ _ _
    by_cases hnm:nameF s.name=true
    · by_cases hu:s.name∈us
      · refine loopK' (c:=p37l1) rfl ?_
        repeat' first|(with_reducible first|refine cS ?_ ?_|refine oS ?_ ?_|refine dS ?_ ?_)<;>intro _|((with_reducible refine kk ?_ ?_);·rfl)|simp -implicitDefEqProofs(disch:=first|omega|assumption)only[push_cast,simprocAttr,Zd,Zc,Ze,Zb,h0,h3,h4,h6,h17,h18,h19,h37,h38,h39,hg,Y0,hnm,keyIs,Yj,hu,Option.getD_some,Option.getD_none]|(with_reducible first|refine cB ?_ ?_|refine oB ?_ ?_|refine dB ?_ ?_)<;>intro _
        have hf:fin=13:=by rw [← hi0,Vd,if_neg (by simp [hu])]
        exact hr _ _ _ _ (by omega) (by rw [hf];simp [look])
      · by_cases hin:s.name∈ns
        · refine loopK' (c:=p37l1) rfl ?_
          repeat' first|(with_reducible first|refine cS ?_ ?_|refine oS ?_ ?_|refine dS ?_ ?_)<;>intro _|((with_reducible refine kk ?_ ?_);·rfl)|simp -implicitDefEqProofs(disch:=first|omega|assumption)only[push_cast,simprocAttr,Zd,Zc,Ze,Zb,h0,h3,h4,h6,h17,h18,h19,h37,h38,h39,hg,Y0,hnm,keyIs,Yj,hu,hin,Option.getD_some,Option.getD_none]|(with_reducible first|refine cB ?_ ?_|refine oB ?_ ?_|refine dB ?_ ?_)<;>intro _
          have hf:fin=13:=by rw [← hi0,Vd,if_neg (by simp [hin])]
          exact hr _ _ _ _ (by omega) (by rw [hf];simp [look])
        · cases hv:validF m.ss s.ty
          · refine loopK' (c:=p37l1) rfl ?_
            repeat' first|(with_reducible first|refine cS ?_ ?_|refine oS ?_ ?_|refine dS ?_ ?_)<;>intro _|((with_reducible refine kk ?_ ?_);·rfl)|simp -implicitDefEqProofs(disch:=first|omega|assumption)only[push_cast,simprocAttr,Zd,Zc,Ze,Zb,h0,h3,h4,h6,h17,h18,h19,h37,h38,h39,hg,Y0,hnm,keyIs,Yj,hu,hin,vq,hv,Option.getD_some,Option.getD_none]|(with_reducible first|refine cB ?_ ?_|refine oB ?_ ?_|refine dB ?_ ?_)<;>intro _
            have hf:fin=12:=by rw [← hi0,Vd,if_pos ⟨hnm,hu,hin⟩,hv];rfl
            exact hr _ _ _ _ (by omega) (by rw [hf];simp [look])
          · refine loopK' (c:=p37l1) rfl ?_
            repeat' first|(with_reducible first|refine cS ?_ ?_|refine oS ?_ ?_|refine dS ?_ ?_)<;>intro _|((with_reducible refine kk ?_ ?_);·rfl)|simp -implicitDefEqProofs(disch:=first|omega|assumption)only[push_cast,simprocAttr,Zd,Zc,Ze,Zb,h0,h3,h4,h6,h17,h18,h19,h37,h38,h39,hg,Y0,hnm,keyIs,Yj,set_kE,hu,hin,vq,hv,Option.getD_some,Option.getD_none,Option.isSome_none]|(with_reducible first|refine cB ?_ ?_|refine oB ?_ ?_|refine dB ?_ ?_)<;>intro _
            refine ih (pre++[s]) (insL s.name ns) _ _ _ (by simp [hl]) (by rw [← hi0,Vd,if_pos ⟨hnm,hu,hin⟩,hv];rfl) (by intro k;simp [obLow,PV.lowL,PV.low]) (by simp [look,Za,h0]) (by simp [look,Za,h3]) (by simp [look,Za,h4]) (by simp [look,Za,h6]) (by simp [look,Za,h17]) (by simp [look,Za,h18]) (by simp [look,Za,h19]) (by simp [look,Za,h37]) (by simp [look,Za,h38]) (by simp [look,Za,h39])
    · have hnm:nameF s.name=false:=by simpa using hnm
      refine loopK' (c:=p37l1) rfl ?_
      repeat' first|(with_reducible first|refine cS ?_ ?_|refine oS ?_ ?_|refine dS ?_ ?_)<;>intro _|((with_reducible refine kk ?_ ?_);·rfl)|simp -implicitDefEqProofs(disch:=first|omega|assumption)only[push_cast,simprocAttr,Zd,Zc,Ze,Zb,h0,h3,h4,h6,h17,h18,h19,h37,h38,h39,hg,Y0,hnm]|(with_reducible first|refine cB ?_ ?_|refine oB ?_ ?_|refine dB ?_ ?_)<;>intro _
      have hf:fin=13:=by rw [← hi0,Vd,if_neg (by simp [hnm])]
      exact hr _ _ _ _ (by omega) (by rw [hf];simp [look])
end
section
def Tf (m:Mod) (sc:List Fld) (e:Ex) (t:Ty):Int:=if (exprF m sc e).2≠0 then (exprF m sc e).2 else if (exprF m sc e).1≠t then 12 else 0
def Uf (m:Mod) (i:Nat) (f:Fun') (us:List Str):Int :=
  if f.ps.length>16 then 11
  else if Vd m.ss us f.ps []≠0 then Vd m.ss us f.ps []
  else if validF m.ss f.res=false then 12
  else if (Wa (m.win i) (gnS (m.win i)) f.ps.length false 0 f.ps f.bodyS).1≠0 then (Wa (m.win i) (gnS (m.win i)) f.ps.length false 0 f.ps f.bodyS).1
  else Tf (m.win i) (Wa (m.win i) (gnS (m.win i)) f.ps.length false 0 f.ps f.bodyS).2 f.retE f.res
def Wl (m:Mod):Nat→List Fun'→List Str→Nat→Int × List Str × Nat
  | _,[],us,c=>(0,us,c)
  | i,f::r,us,c=>if declF us f.name=0 then (if Uf m i f (insL f.name us)=0 then Wl m (i+1) r (insL f.name us) (c+1) else (Uf m i f (insL f.name us),insL f.name us,c+1)) else (13,us,c)
theorem Vw {m:Mod} (hm:m.Ok) (i:Nat):(m.win i).Ok:=by
  refine ⟨hm.ss,hm.us,hm.ts,hm.bs,hm.ins,Nat.zero_le _,?_,hm.sf,fun f hf=>hm.pf f (List.mem_of_mem_take hf)⟩
  have:=hm.fs
  simp only [Mod.win,List.length_take]
  omega
theorem Vg {k j:Nat} {h:Heap} (hk:k≤j) (hl:heapLow k h=true):heapLow j h=true:=by
  obtain ⟨d,rfl⟩:=Nat.exists_eq_add_of_le hk
  induction d with
  | zero=>exact hl
  | succ d ih=>exact heapLow_s (ih (by omega))
theorem all_le {k j:Nat} {l:List (Option Ob)} (hk:k≤j) (hl:l.all (obLow k)=true):l.all (obLow j)=true:=by
  have:=Vg (h:=[l]) hk (by simp only [heapLow,List.all_cons,List.all_nil,Bool.and_true,hl])
  simpa only [heapLow,List.all_cons,List.all_nil,Bool.and_true] using this
theorem lowX {H X:Heap} {o2 L:List (Option Ob)} (hlo:LowH H o2) (hL:∀ k,L.all (obLow k)=true) (hX:heapLow (H.length+2+X.length) X=true):LowH (H++L::X) o2:=by
  have e:(H++L::X).length+1=H.length+2+X.length:=by simp;omega
  refine ⟨?_,by rw [e];exact all_le (by omega) hlo.ho⟩
  rw [e]
  have h1:=Vg (j:=H.length+2+X.length) (by omega) hlo.hr
  unfold heapLow at h1 hX ⊢
  rw [List.all_append,List.all_cons,h1,hX,hL]
  rfl
theorem U3 (m:Mod) (hm:m.Ok) (fs:List Fld) (hb:fs.length≤1048576) {f:Fl} {us:List Str} {c:Nat} {o2:List (Option Ob)} {H X:Heap} {sO oA oT:Option Ob} {gm:Nat} {v3 v4 v17 v18 v19:PV} (fin:Int) {ks:List KI} {Q:PEx→Fr→Prop}
    (hr:∀ t (ns:List Str) (cn:Nat) (oP:Option Ob),fin≠0→look t 2=.int .i64 fin→kQ E ks Q .ret { lvl:=H.length+1,tmps:=mk 134 t,heap:=fH m us c o2 H [sO,nsO ns cn gm,oP,oA,oT] X,defers:=[] })
    (hn:∀ t (ns:List Str) (cn:Nat) (oP:Option Ob),fin=0→(∀ k,obLow k oP=true)→look t 0=.ptr (0,1) 1 0 0→look t 3=v3→look t 4=v4→look t 17=v17→look t 18=v18→look t 19=v19→kQ E ks Q .norm { lvl:=H.length+1,tmps:=mk 134 t,heap:=fH m us c o2 H [sO,nsO ns cn gm,oP,oA,oT] X,defers:=[] })
    (oP:Option Ob) (t:List (Nat × PV)) (hf:Vd m.ss us fs []=fin) (hoP:∀ k,obLow k oP=true) (h0:look t 0=.ptr (0,1) 1 0 0) (h3:look t 3=v3) (h4:look t 4=v4) (h6:look t 6=.map (H.length+1,1) gm) (h17:look t 17=v17) (h18:look t 18=v18) (h19:look t 19=v19) (h37:look t 37=.vs f (flds fs)) (h38:look t 38=.int .i64 fs.length) (h39:look t 39=.int .i64 (0:Nat)) :
    kQ E (.code p37l1::.blk 2::ks) Q .norm { lvl:=H.length+1,tmps:=mk 134 t,heap:=fH m us c o2 H [sO,some (.map [] 0 gm),oP,oA,oT] X,defers:=[] } :=
  Ts m hm fs hb fin hr hn fs [] [] 0 oP t rfl hf hoP h0 h3 h4 h6 h17 h18 h19 h37 h38 h39
abbrev c10 (s:Fun'):List PV:=[.str s.name,.vs s.fl (flds s.ps),.int .i64 s.res.kind,.str s.res.name,.vs s.fb (sts s.bodyS),.int .i64 s.retE.kind,.int .i64 s.retE.op,.str s.retE.name,.int .i64 s.retE.value,.vs s.retE.fl (exs s.retE.args)]
theorem Tw (m:Mod) (hm:m.Ok) (i:Nat) (s:Fun') (hz:s.ps.length+(szS s.bodyS+s.retE.size)≤1048576) (us:List Str) (c:Nat) (o2:List (Option Ob)) (H X:Heap) (L:List (Option Ob)) (hlo:LowH (H++L::X) o2) :
    ∃ cg x3 x4 x5 el' g' fl' la',(∀ k,[x3,x4,x5].all (obLow k)=true)∧doCall E (callR E) 60 [.agg (m.win i).c,.vs s.fl (flds s.ps),.bool false] (fH m us c o2 H L X)=some (.ptr (H.length+1+X.length+1,2) 1 0 0,fH m us c o2 H L (X++[bdL (m.win i) (H.length+1+X.length+1) (gnS (m.win i)) cg s.ps.length false [x3,x4,x5] s.ps 1 s.ps.length .nil [] 0 0])) ∧
      doCall E (callR E) 62 [.ptr (H.length+1+X.length+1,2) 1 0 0,.vs s.fb (sts s.bodyS)] (fH m us c o2 H L (X++[bdL (m.win i) (H.length+1+X.length+1) (gnS (m.win i)) cg s.ps.length false [x3,x4,x5] s.ps 1 s.ps.length .nil [] 0 0]))=some (.int .i64 (Wa (m.win i) (gnS (m.win i)) s.ps.length false 0 s.ps s.bodyS).1,fH m us c o2 H L (X++[bdL (m.win i) (H.length+1+X.length+1) (gnS (m.win i)) cg s.ps.length false [x3,x4,x5] el' g' s.ps.length fl' la' 0 0])) ∧
      s.ps.length≤el'.length∧el'.take s.ps.length=s.ps∧s.ps.length+la'.length≤1048576∧((Wa (m.win i) (gnS (m.win i)) s.ps.length false 0 s.ps s.bodyS).1=0→s.ps++la'=(Wa (m.win i) (gnS (m.win i)) s.ps.length false 0 s.ps s.bodyS).2):=by
  have hmw:=Vw hm i
  obtain ⟨cg,x3,x4,x5,hq,hk⟩:=Uq (m.win i) hmw s.fl s.ps (by omega) false (fH m us c o2 H L X)
  have e:(fH m us c o2 H L X).length=H.length+1+X.length+1:=by simp;omega
  have ap:∀ B,fH m us c o2 H L X++[B]=fH m us c o2 H L (X++[B]):=fun B=>by
    show _::((H++L::X)++[B])=_
    rw [z_app]
  have hlz:LowZ (fH m us c o2 H L X) [] [x3,x4,x5]:=LowZ.start (T3 m us c o2 (H++L::X) hlo _ (by simp)) hk
  obtain ⟨el',g',fl',la',hb,b1,b2,b3,b4⟩:=Uy (m.win i) hmw (gnS (m.win i)) cg s.ps.length false [x3,x4,x5] (fH m us c o2 H L X) s.bodyS (by omega) s.fb [] hlz s.ps 1 s.ps.length .nil [] (by omega) (Nat.le_refl _)
  have tk:s.ps.take s.ps.length=s.ps:=List.take_of_length_le (Nat.le_refl _)
  rw [tk] at hb b2 b4
  refine ⟨cg,x3,x4,x5,el',g',fl',la',hk,?_,?_,b1,b2,b3,b4⟩
  · rw [ap,e] at hq
    exact hq
  · unfold zH at hb
    rw [show ∀ B,fH m us c o2 H L X++B::[]=fH m us c o2 H L X++[B] from fun _=>rfl,show ∀ B,fH m us c o2 H L X++B::[]=fH m us c o2 H L X++[B] from fun _=>rfl,ap,ap,e] at hb
    exact hb
end
section
set_option maxHeartbeats 16000000 in
theorem Tt (m:Mod) (hm:m.Ok) (hfz:∀ s∈m.fs,s.ps.length+(szS s.bodyS+s.retE.size)≤1048576) (o2:List (Option Ob)) (H:Heap) (hlo:LowH H o2) (fin:Int × List Str × Nat) {ks:List KI} {Q:PEx→Fr→Prop}
    (hr:∀ t (us:List Str) (c:Nat) (o0 o1 oP oA oT:Option Ob) (X:Heap) e,e≠0→fin=(e,us,c)→look t 2=.int .i64 e→kQ E ks Q .ret { lvl:=H.length+1,tmps:=mk 134 t,heap:=fH m us c o2 H [o0,o1,oP,oA,oT] X,defers:=[] })
    (hn:∀ t (us:List Str) (c:Nat) (o0 o1 oP oA oT:Option Ob) (X:Heap),fin=(0,us,c)→kQ E ks Q .norm { lvl:=H.length+1,tmps:=mk 134 t,heap:=fH m us c o2 H [o0,o1,oP,oA,oT] X,defers:=[] }) :
    ∀ (rest pre:List Fun') (us:List Str) (c:Nat) (o0 o1 oP oA oT:Option Ob) (X:Heap) (t:List (Nat × PV)),m.fs=pre++rest→(Wl m pre.length rest us c=fin)→(∀ k,[o0,o1,oP,oA,oT].all (obLow k)=true)→(heapLow (H.length+2+X.length) X=true) →
      look t 0=.ptr (0,1) 1 0 0→look t 17=.vs m.ff (funs m.fs)→look t 18=.int .i64 m.fs.length→look t 19=.int .i64 pre.length →
      kQ E (.code p37l0::.blk 0::ks) Q .norm { lvl:=H.length+1,tmps:=mk 134 t,heap:=fH m us c o2 H [o0,o1,oP,oA,oT] X,defers:=[] }:=by
  intro rest
  have hss:=hm.ss
  have pu63:pureB E 63=true:=rfl
  have pu61:pureB E 61=true:=rfl
  have hfs:=hm.fs
  induction rest with
  | nil =>
    intro pre us c o0 o1 oP oA oT X t hl hi0 hi1 hi2 h0 h17 h18 h19
    have e:m.fs.length=pre.length:=by rw [hl];simp
    refine loopK' (c:=p37l0) rfl ?_
    repeat' first|(with_reducible first|refine cS ?_ ?_|refine oS ?_ ?_|refine dS ?_ ?_)<;>intro _|((with_reducible refine kk ?_ ?_);·rfl)|simp -implicitDefEqProofs(disch:=first|omega|assumption)only[push_cast,simprocAttr,Zd,Zc,Ze,Zb,h0,h17,h18,h19,e]|(with_reducible first|refine cB ?_ ?_|refine oB ?_ ?_|refine dB ?_ ?_)<;>intro _
    exact hn _ _ _ _ _ _ _ _ _ hi0.symm
  | cons s r ih =>
    intro pre us c o0 o1 oP oA oT X t hl hi0 hi1 hi2 h0 h17 h18 h19
    have e:m.fs.length=pre.length+r.length+1:=by rw [hl];simp;omega
    have hg:(funs m.fs)[pre.length]?=some (.agg [.str s.name,.vs s.fl (flds s.ps),.int .i64 s.res.kind,.str s.res.name,.vs s.fb (sts s.bodyS),.int .i64 s.retE.kind,.int .i64 s.retE.op,.str s.retE.name,.int .i64 s.retE.value,.vs s.retE.fl (exs s.retE.args)]):=by rw [hl,← s.v10];exact Yd _ _ _ _
    have hps:s.ps.length≤1048576:=hm.pf s (by rw [hl];simp)
    have hzs:=hfz s (by rw [hl];simp)
    obtain ⟨g0,hg0⟩:∃ g0,nextGen (fH m us c o2 H [o0,o1,oP,oA,oT] X) (H.length+1,0)=g0:=⟨_,rfl⟩
    obtain ⟨g1,hg1⟩:∃ g1,nextGen (fH m us c o2 H [o0,o1,oP,oA,oT] X) (H.length+1,1)=g1:=⟨_,rfl⟩
    obtain ⟨g4,hg4⟩:∃ g4,nextGen (fH m us c o2 H [o0,o1,oP,oA,oT] X) (H.length+1,4)=g4:=⟨_,rfl⟩
    simp only [push_cast] at hg0 hg1 hg4
    have hoP:∀ k,obLow k oP=true:=fun k=>by have:=hi1 k;simp only [List.all_cons,Bool.and_eq_true] at this;exact this.2.2.1
    have hoA:∀ k,obLow k oA=true:=fun k=>by have:=hi1 k;simp only [List.all_cons,Bool.and_eq_true] at this;exact this.2.2.2.1
    have hoT:∀ k,obLow k oT=true:=fun k=>by have:=hi1 k;simp only [List.all_cons,Bool.and_eq_true] at this;exact this.2.2.2.2.1
    have ho1:∀ k,obLow k o1=true:=fun k=>by have:=hi1 k;simp only [List.all_cons,Bool.and_eq_true] at this;exact this.2.1
    have hc10:∀ k,obLow k (some (.mem [.agg (c10 s)] g0 false 10))=true:=fun k=>by simp [obLow,PV.lowL,PV.low]
    have dq:=decl_ok m us c s.name o2 (H++[some (.mem [.agg (c10 s)] g0 false 10),o1,oP,oA,oT]::X) (lowX hlo (fun k=>by simp only [List.all_cons,List.all_nil,hc10,ho1,hoP,hoA,hoT,Bool.and_true]) hi2)
    have vq:=fun h=>valid_ok m.sf m.ss hm.ss s.res h
    rcases decl_01 (us:=us) (nm:=s.name) with hd|hd
    · have hgo:∀ x,Uf m pre.length s (insL s.name us)=x→fin=(if x=0 then Wl m (pre.length+1) r (insL s.name us) (c+1) else (x,insL s.name us,c+1)):=by
        intro x hx
        rw [← hi0,Wl,if_pos hd,hx]
      by_cases hz2:s.ps.length>16
      · refine loopK' (c:=p37l0) rfl ?_
        repeat' first|(with_reducible first|refine cS ?_ ?_|refine oS ?_ ?_|refine dS ?_ ?_)<;>intro _|((with_reducible refine kk ?_ ?_);·rfl)|simp -implicitDefEqProofs(disch:=first|omega|assumption)only[push_cast,simprocAttr,Zd,Zc,Ze,Zb,h0,h17,h18,h19,hg,dq,hd,hg0,hz2]|(with_reducible first|refine cB ?_ ?_|refine oB ?_ ?_|refine dB ?_ ?_)<;>intro _
        exact hr _ _ _ _ _ _ _ _ _ 11 (by decide) (hgo 11 (by rw [Uf,if_pos hz2])) rfl
      · refine loopK' (c:=p37l0) rfl ?_
        repeat' first|(with_reducible first|refine cS ?_ ?_|refine oS ?_ ?_|refine dS ?_ ?_)<;>intro _|((with_reducible refine kk ?_ ?_);·rfl)|simp -implicitDefEqProofs(disch:=first|omega|assumption)only[push_cast,simprocAttr,Zd,Zc,Ze,Zb,h0,h17,h18,h19,hg,dq,hd,hg0,hg1,hz2]|(with_reducible first|refine cB ?_ ?_|refine oB ?_ ?_|refine dB ?_ ?_)<;>intro _
        with_reducible refine U3 m hm s.ps hps (f:=s.fl) (v3:=.int .i64 pre.length) (v4:=.ptr (H.length+1,0) g0 0 0) (v17:=.vs m.ff (funs m.fs)) (v18:=.int .i64 m.fs.length) (v19:=.int .i64 pre.length) (Vd m.ss (insL s.name us) s.ps []) ?_ ?_ oP _ rfl hoP (by simp [look,Za, *]) (by simp [look,Za, *]) (by simp [look,Za, *]) (by simp [look,Za, *]) (by simp [look,Za, *]) (by simp [look,Za, *]) (by simp [look,Za, *]) (by simp [look,Za, *]) (by simp [look,Za, *]) (by simp [look,Za, *])
        · intro t' ns cn oP' he k2
          exact hr _ _ _ _ _ _ _ _ _ _ he (by rw [hgo _ (by rw [Uf,if_neg hz2,if_pos he]),if_neg he]) k2
        · intro t' ns cn oP' hpar hoP' k0 k3 k4 k17 k18 k19
          cases hv:validF m.ss s.res
          · repeat' first|(with_reducible first|refine cS ?_ ?_|refine oS ?_ ?_|refine dS ?_ ?_)<;>intro _|((with_reducible refine kk ?_ ?_);·rfl)|simp -implicitDefEqProofs(disch:=first|omega|assumption)only[push_cast,simprocAttr,Zd,Zc,Ze,Zb,k0,k3,k4,k17,k18,k19,vq,hv]|(with_reducible first|refine cB ?_ ?_|refine oB ?_ ?_|refine dB ?_ ?_)<;>intro _
            exact hr _ _ _ _ _ _ _ _ _ 12 (by decide) (hgo 12 (by rw [Uf,if_neg hz2,if_neg (by simp [hpar]),if_pos hv])) rfl
          · have hL:∀ k,[some (.mem [.agg (c10 s)] g0 false 10),nsO ns cn g1,oP',oA,oT].all (obLow k)=true:=fun k=>by
              simp only [List.all_cons,List.all_nil,hc10,hoP',hoA,hoT,Bool.and_true,Bool.true_and]
              exact kE_low k ns
            have wq:=fun h=>win_ok m pre.length (by omega) h
            obtain ⟨cg,x3,x4,x5,el',g',fl',la',hk3,hq,hb,b1,b2,b3,b4⟩:=Tw m hm pre.length s hzs (insL s.name us) (c+1) o2 H X [some (.mem [.agg (c10 s)] g0 false 10),nsO ns cn g1,oP',oA,oT] (lowX hlo hL hi2)
            have hgo2:∀ x,(if (Wa (m.win pre.length) (gnS (m.win pre.length)) s.ps.length false 0 s.ps s.bodyS).1≠0 then (Wa (m.win pre.length) (gnS (m.win pre.length)) s.ps.length false 0 s.ps s.bodyS).1 else Tf (m.win pre.length) (Wa (m.win pre.length) (gnS (m.win pre.length)) s.ps.length false 0 s.ps s.bodyS).2 s.retE s.res)=x→fin=(if x=0 then Wl m (pre.length+1) r (insL s.name us) (c+1) else (x,insL s.name us,c+1)):=fun x hx=>hgo x (by rw [Uf,if_neg hz2,if_neg (by simp [hpar]),if_neg (by simp [hv]),hx])
            have hXp:∀ B:List (Option Ob),B.all (obLow (H.length+2+X.length+1))=true→heapLow (H.length+2+(X++[B]).length) (X++[B])=true:=fun B hB=>by
              have e:H.length+2+(X++[B]).length=H.length+2+X.length+1:=by simp;omega
              rw [e]
              have h1:=heapLow_s hi2
              unfold heapLow at h1 ⊢
              rw [List.all_append,h1,List.all_cons,hB]
              rfl
            obtain ⟨bx,bs,hbx⟩:∃ bx bs,Wa (m.win pre.length) (gnS (m.win pre.length)) s.ps.length false 0 s.ps s.bodyS=(bx,bs):=⟨_,_,rfl⟩
            rw [hbx] at hb b4 hgo2
            by_cases hx0:bx=0
            · subst hx0
              have b4:=b4 rfl
              obtain ⟨tk,tn,er,hxe⟩:∃ tk tn er,exprF (m.win pre.length) (s.ps++la') s.retE=(⟨tk,tn⟩,er):=⟨_,_,_,rfl⟩
              rw [if_neg (by simp),show bs=s.ps++la' from b4.symm,Tf,hxe] at hgo2
              by_cases hin:s.ps.length+la'.length≤el'.length
              · have hq0:=fun gg=>Uv (m.win pre.length) (Vw hm _) (nm:=(H.length+1+X.length+1,0)) (g:=g') (n:=s.ps.length+la'.length) (el:=el'.take s.ps.length++la'++el'.drop (s.ps.length+la'.length)) (by simp;omega) b3 s.retE (by omega) (h:=fH m (insL s.name us) (c+1) o2 H [some (.mem [.agg (c10 s)] g0 false 10),nsO ns cn g1,oP',oA,some (.mem [.agg [.int .i64 0,.str []]] gg false 2)] (X++[bdL (m.win pre.length) (H.length+1+X.length+1) (gnS (m.win pre.length)) cg s.ps.length false [x3,x4,x5] (el'.take s.ps.length++la'++el'.drop (s.ps.length+la'.length)) (g') (s.ps.length+la'.length) fl' la' 0 0])) (by rw [hg_s,zg_t];rfl)
                rw [show (el'.take s.ps.length++la'++el'.drop (s.ps.length+la'.length)).take (s.ps.length+la'.length)=s.ps++la' from by rw [b2,List.take_append_of_le_length (by simp),List.take_of_length_le (by simp)],s.retE.c_eq,hxe] at hq0
                clear hg0 hg1 hg4
                by_cases he0:er=0
                · subst he0
                  by_cases hk:tk=s.res.kind
                  · by_cases hw:tn=s.res.name
                    · have hst:(⟨tk,tn⟩:Ty)=s.res:=by rw [hk,hw]
                      have hfin:=hgo2 0 (by simp [hst])
                      rw [if_pos rfl] at hfin
                      cases oT
                      all_goals
                        repeat' first|(with_reducible first|refine cS ?_ ?_|refine oS ?_ ?_|refine dS ?_ ?_)<;>intro _|((with_reducible refine kk ?_ ?_);·rfl)|simp -implicitDefEqProofs(disch:=first|omega|assumption)only[push_cast,simprocAttr,Zd,Zc,Ze,Zb,k0,k3,k4,k17,k18,k19,vq,hv,wq,hq,hb,hq0,hin,hk,hw,Yu,Xr,Xs,Y5,Xy,b1,Yv,Yq,Yp,Yo,Yh,Yx,Yi,stabG,stabS,Z1,Yb,Z0,Zt,Zy,Z9,Ya,Zz,Zu,Zp]|(with_reducible first|refine cB ?_ ?_|refine oB ?_ ?_|refine dB ?_ ?_)<;>intro _|with_reducible first|refine Z2 ?_ ?_|refine Z3 (by decide) ?_|refine Z4 (by decide) ?_ ?_|exact Z5|refine Zx ?_|refine Zq ?_
                      all_goals refine ih (pre++[s]) (insL s.name us) (c+1) _ _ _ _ _ _ _ (by simp [hl]) (by rw [hfin];simp) (fun k=>?_) (hXp _ (Ug _ (by omega) (hk3 _) _ _ _ _ _ _ _)) (by simp [look,Za, *]) (by simp [look,Za, *]) (by simp [look,Za, *]) (by simp [look,Za, *])
                      all_goals simp only [List.all_cons,List.all_nil,hc10,hoP',hoA,Bool.and_true,Bool.true_and]
                      all_goals simp [obLow,PV.lowL,PV.low,kE_low]
                    · have hst:¬ (⟨tk,tn⟩:Ty)=s.res:=fun h=>hw (by rw [← h])
                      cases oT
                      all_goals
                        repeat' first|(with_reducible first|refine cS ?_ ?_|refine oS ?_ ?_|refine dS ?_ ?_)<;>intro _|((with_reducible refine kk ?_ ?_);·rfl)|simp -implicitDefEqProofs(disch:=first|omega|assumption)only[push_cast,simprocAttr,Zd,Zc,Ze,Zb,k0,k3,k4,k17,k18,k19,vq,hv,wq,hq,hb,hq0,hin,hk,hw,Yu,Xr,Xs,Y5,Xy,b1,Yv,Yq,Yp,Yo,Yh,Yx,Yi,stabG,stabS,Z1,Yb,Z0,Zt,Zy,Z9,Ya,Zz,Zu,Zp]|(with_reducible first|refine cB ?_ ?_|refine oB ?_ ?_|refine dB ?_ ?_)<;>intro _|with_reducible first|refine Z2 ?_ ?_|refine Z3 (by decide) ?_|refine Z4 (by decide) ?_ ?_|exact Z5|refine Zx ?_|refine Zq ?_
                      all_goals exact hr _ _ _ _ _ _ _ _ _ 12 (by decide) (hgo2 12 (by simp [hst])) rfl
                  · have hst:¬ (⟨tk,tn⟩:Ty)=s.res:=fun h=>hk (by rw [← h])
                    cases oT
                    all_goals
                      repeat' first|(with_reducible first|refine cS ?_ ?_|refine oS ?_ ?_|refine dS ?_ ?_)<;>intro _|((with_reducible refine kk ?_ ?_);·rfl)|simp -implicitDefEqProofs(disch:=first|omega|assumption)only[push_cast,simprocAttr,Zd,Zc,Ze,Zb,k0,k3,k4,k17,k18,k19,vq,hv,wq,hq,hb,hq0,hin,hk,Xr,Xs,Y5,Xy,b1,Yv,Yq,Yp,Yo,Yh,Yx,Yi,stabG,stabS,Z1,Yb,Z0,Zt,Zy,Z9,Ya,Zz,Zu,Zp]|(with_reducible first|refine cB ?_ ?_|refine oB ?_ ?_|refine dB ?_ ?_)<;>intro _|with_reducible first|refine Z2 ?_ ?_|refine Z3 (by decide) ?_|refine Z4 (by decide) ?_ ?_|exact Z5|refine Zx ?_|refine Zq ?_
                    all_goals exact hr _ _ _ _ _ _ _ _ _ 12 (by decide) (hgo2 12 (by simp [hst])) rfl
                · cases oT
                  all_goals
                    repeat' first|(with_reducible first|refine cS ?_ ?_|refine oS ?_ ?_|refine dS ?_ ?_)<;>intro _|((with_reducible refine kk ?_ ?_);·rfl)|simp -implicitDefEqProofs(disch:=first|omega|assumption)only[push_cast,simprocAttr,Zd,Zc,Ze,Zb,k0,k3,k4,k17,k18,k19,vq,hv,wq,hq,hb,hq0,hin,he0,Xr,Xs,Y5,Xy,b1,Yv,Yq,Yp,Yo,Yh,Yx,Yi,stabG,stabS,Z1,Yb,Z0,Zt,Zy,Z9,Ya,Zz,Zu,Zp]|(with_reducible first|refine cB ?_ ?_|refine oB ?_ ?_|refine dB ?_ ?_)<;>intro _|with_reducible first|refine Z2 ?_ ?_|refine Z3 (by decide) ?_|refine Z4 (by decide) ?_ ?_|exact Z5|refine Zx ?_|refine Zq ?_
                  all_goals exact hr _ _ _ _ _ _ _ _ _ er he0 (by rw [hgo2 er (by simp [he0]),if_neg he0]) rfl
              · have hq0:=fun gg=>Uv (m.win pre.length) (Vw hm _) (nm:=(H.length+1+X.length+1,0)) (g:=g'+la'.length) (n:=s.ps.length+la'.length) (el:=el'.take s.ps.length++la') (by simp;omega) b3 s.retE (by omega) (h:=fH m (insL s.name us) (c+1) o2 H [some (.mem [.agg (c10 s)] g0 false 10),nsO ns cn g1,oP',oA,some (.mem [.agg [.int .i64 0,.str []]] gg false 2)] (X++[bdL (m.win pre.length) (H.length+1+X.length+1) (gnS (m.win pre.length)) cg s.ps.length false [x3,x4,x5] (el'.take s.ps.length++la') (g'+la'.length) (s.ps.length+la'.length) fl' la' 0 0])) (by rw [hg_s,zg_t];rfl)
                rw [show (el'.take s.ps.length++la').take (s.ps.length+la'.length)=s.ps++la' from by rw [b2,List.take_of_length_le (by simp)],s.retE.c_eq,hxe] at hq0
                clear hg0 hg1 hg4
                by_cases he0:er=0
                · subst he0
                  by_cases hk:tk=s.res.kind
                  · by_cases hw:tn=s.res.name
                    · have hst:(⟨tk,tn⟩:Ty)=s.res:=by rw [hk,hw]
                      have hfin:=hgo2 0 (by simp [hst])
                      rw [if_pos rfl] at hfin
                      cases oT
                      all_goals
                        repeat' first|(with_reducible first|refine cS ?_ ?_|refine oS ?_ ?_|refine dS ?_ ?_)<;>intro _|((with_reducible refine kk ?_ ?_);·rfl)|simp -implicitDefEqProofs(disch:=first|omega|assumption)only[push_cast,simprocAttr,Zd,Zc,Ze,Zb,k0,k3,k4,k17,k18,k19,vq,hv,wq,hq,hb,hq0,hin,hk,hw,Yu,Xr,Xs,Y5,Xy,b1,Yv,Yq,Yp,Yo,Yh,Yx,Yi,stabG,stabS,Z1,Yb,Z0,Zt,Zy,Z9,Ya,Zz,Zu,Zp]|(with_reducible first|refine cB ?_ ?_|refine oB ?_ ?_|refine dB ?_ ?_)<;>intro _|with_reducible first|refine Z2 ?_ ?_|refine Z3 (by decide) ?_|refine Z4 (by decide) ?_ ?_|exact Z5|refine Zx ?_|refine Zq ?_
                      all_goals refine ih (pre++[s]) (insL s.name us) (c+1) _ _ _ _ _ _ _ (by simp [hl]) (by rw [hfin];simp) (fun k=>?_) (hXp _ (Ug _ (by omega) (hk3 _) _ _ _ _ _ _ _)) (by simp [look,Za, *]) (by simp [look,Za, *]) (by simp [look,Za, *]) (by simp [look,Za, *])
                      all_goals simp only [List.all_cons,List.all_nil,hc10,hoP',hoA,Bool.and_true,Bool.true_and]
                      all_goals simp [obLow,PV.lowL,PV.low,kE_low]
                    · have hst:¬ (⟨tk,tn⟩:Ty)=s.res:=fun h=>hw (by rw [← h])
                      cases oT
                      all_goals
                        repeat' first|(with_reducible first|refine cS ?_ ?_|refine oS ?_ ?_|refine dS ?_ ?_)<;>intro _|((with_reducible refine kk ?_ ?_);·rfl)|simp -implicitDefEqProofs(disch:=first|omega|assumption)only[push_cast,simprocAttr,Zd,Zc,Ze,Zb,k0,k3,k4,k17,k18,k19,vq,hv,wq,hq,hb,hq0,hin,hk,hw,Yu,Xr,Xs,Y5,Xy,b1,Yv,Yq,Yp,Yo,Yh,Yx,Yi,stabG,stabS,Z1,Yb,Z0,Zt,Zy,Z9,Ya,Zz,Zu,Zp]|(with_reducible first|refine cB ?_ ?_|refine oB ?_ ?_|refine dB ?_ ?_)<;>intro _|with_reducible first|refine Z2 ?_ ?_|refine Z3 (by decide) ?_|refine Z4 (by decide) ?_ ?_|exact Z5|refine Zx ?_|refine Zq ?_
                      all_goals exact hr _ _ _ _ _ _ _ _ _ 12 (by decide) (hgo2 12 (by simp [hst])) rfl
                  · have hst:¬ (⟨tk,tn⟩:Ty)=s.res:=fun h=>hk (by rw [← h])
                    cases oT
                    all_goals
                      repeat' first|(with_reducible first|refine cS ?_ ?_|refine oS ?_ ?_|refine dS ?_ ?_)<;>intro _|((with_reducible refine kk ?_ ?_);·rfl)|simp -implicitDefEqProofs(disch:=first|omega|assumption)only[push_cast,simprocAttr,Zd,Zc,Ze,Zb,k0,k3,k4,k17,k18,k19,vq,hv,wq,hq,hb,hq0,hin,hk,Xr,Xs,Y5,Xy,b1,Yv,Yq,Yp,Yo,Yh,Yx,Yi,stabG,stabS,Z1,Yb,Z0,Zt,Zy,Z9,Ya,Zz,Zu,Zp]|(with_reducible first|refine cB ?_ ?_|refine oB ?_ ?_|refine dB ?_ ?_)<;>intro _|with_reducible first|refine Z2 ?_ ?_|refine Z3 (by decide) ?_|refine Z4 (by decide) ?_ ?_|exact Z5|refine Zx ?_|refine Zq ?_
                    all_goals exact hr _ _ _ _ _ _ _ _ _ 12 (by decide) (hgo2 12 (by simp [hst])) rfl
                · cases oT
                  all_goals
                    repeat' first|(with_reducible first|refine cS ?_ ?_|refine oS ?_ ?_|refine dS ?_ ?_)<;>intro _|((with_reducible refine kk ?_ ?_);·rfl)|simp -implicitDefEqProofs(disch:=first|omega|assumption)only[push_cast,simprocAttr,Zd,Zc,Ze,Zb,k0,k3,k4,k17,k18,k19,vq,hv,wq,hq,hb,hq0,hin,he0,Xr,Xs,Y5,Xy,b1,Yv,Yq,Yp,Yo,Yh,Yx,Yi,stabG,stabS,Z1,Yb,Z0,Zt,Zy,Z9,Ya,Zz,Zu,Zp]|(with_reducible first|refine cB ?_ ?_|refine oB ?_ ?_|refine dB ?_ ?_)<;>intro _|with_reducible first|refine Z2 ?_ ?_|refine Z3 (by decide) ?_|refine Z4 (by decide) ?_ ?_|exact Z5|refine Zx ?_|refine Zq ?_
                  all_goals exact hr _ _ _ _ _ _ _ _ _ er he0 (by rw [hgo2 er (by simp [he0]),if_neg he0]) rfl
            · repeat' first|(with_reducible first|refine cS ?_ ?_|refine oS ?_ ?_|refine dS ?_ ?_)<;>intro _|((with_reducible refine kk ?_ ?_);·rfl)|simp -implicitDefEqProofs(disch:=first|omega|assumption)only[push_cast,simprocAttr,Zd,Zc,Ze,Zb,k0,k3,k4,k17,k18,k19,vq,hv,wq,hq,hb,hx0,Yv,Yq,Yp,Yo,Yh,Yx,Yi,stabG,stabS,Z1,Yb,Z0,Zt,Zy,Z9,Ya,Zz,Zu,Zp]|(with_reducible first|refine cB ?_ ?_|refine oB ?_ ?_|refine dB ?_ ?_)<;>intro _|with_reducible first|refine Z2 ?_ ?_|refine Z3 (by decide) ?_|refine Z4 (by decide) ?_ ?_|exact Z5|refine Zx ?_|refine Zq ?_
              exact hr _ _ _ _ _ _ _ _ _ bx hx0 (by rw [hgo2 bx (if_pos hx0),if_neg hx0]) rfl
    · refine loopK' (c:=p37l0) rfl ?_
      repeat' first|(with_reducible first|refine cS ?_ ?_|refine oS ?_ ?_|refine dS ?_ ?_)<;>intro _|((with_reducible refine kk ?_ ?_);·rfl)|simp -implicitDefEqProofs(disch:=first|omega|assumption)only[push_cast,simprocAttr,Zd,Zc,Ze,Zb,h0,h17,h18,h19,hg,dq,hd,hg0]|(with_reducible first|refine cB ?_ ?_|refine oB ?_ ?_|refine dB ?_ ?_)<;>intro _
      exact hr _ _ _ _ _ _ _ _ _ 13 (by decide) (by rw [← hi0,Wl,if_neg (by omega)]) rfl
end
section
set_option maxHeartbeats 4000000 in
theorem Vz (m:Mod) (hm:m.Ok) (hfz:∀ s∈m.fs,s.ps.length+(szS s.bodyS+s.retE.size)≤1048576) (us:List Str) (c:Nat) (o2:List (Option Ob)) (H:Heap) (hlo:LowH H o2) :
    doCall E (callR E) 37 [.ptr (0,1) 1 0 0] ((usO us c::ckO m::o2)::H)=some (.int .i64 (Wl m 0 m.fs us c).1,(usO (Wl m 0 m.fs us c).2.1 (Wl m 0 m.fs us c).2.2::ckO m::o2)::H):=by
  have hr:=hlo.hr
  have ho:=hlo.ho
  have hck:=X5 m H.length
  have hus:=Xl
  have tk:∀ (a L:List (Option Ob)) (X:Heap),(a::(H++L::X)).take (H.length+1)=a::H:=fun a L X=>by simp
  refine Z7 (pf:=p37) rfl rfl rfl rfl rfl (by simp [PV.lowL,PV.low]) ?_
  show kQ E _ (endM [⟨2,none⟩] _ _ _) .norm { lvl:=H.length+1,tmps:=mk 134 [(0,.ptr (0,1) 1 0 0)],heap:=(usO us c::ckO m::o2)::(H++[[none,none,none,none,none]]),defers:=[] }
  repeat' first|(with_reducible first|refine cS ?_ ?_|refine oS ?_ ?_|refine dS ?_ ?_)<;>intro _|((with_reducible refine kk ?_ ?_);·rfl)|simp -implicitDefEqProofs(disch:=first|omega|assumption)only[push_cast,simprocAttr,Zd,Zc,Ze,Zb]|(with_reducible first|refine cB ?_ ?_|refine oB ?_ ?_|refine dB ?_ ?_)<;>intro _
  with_reducible refine Tt m hm hfz o2 H hlo (Wl m 0 m.fs us c) ?_ ?_ m.fs [] us c none none none none none [] _ rfl rfl (fun _=>rfl) rfl (by simp [look,Za]) (by simp [look,Za]) (by simp [look,Za]) (by simp [look,Za])
  · intro t us' c' o0 o1 oP oA oT X e he hf h2
    rw [hf]
    repeat' first|(with_reducible first|refine cS ?_ ?_|refine oS ?_ ?_|refine dS ?_ ?_)<;>intro _|((with_reducible refine kk ?_ ?_);·rfl)|simp -implicitDefEqProofs(disch:=first|omega|assumption)only[push_cast,simprocAttr,Zd,Zc,Ze,Zb,h2,tk,Zm,allMarks,hck,hus,hr,ho,List.all_cons]|(with_reducible first|refine cB ?_ ?_|refine oB ?_ ?_|refine dB ?_ ?_)<;>intro _
  · intro t us' c' o0 o1 oP oA oT X hf
    rw [hf]
    repeat' first|(with_reducible first|refine cS ?_ ?_|refine oS ?_ ?_|refine dS ?_ ?_)<;>intro _|((with_reducible refine kk ?_ ?_);·rfl)|simp -implicitDefEqProofs(disch:=first|omega|assumption)only[push_cast,simprocAttr,Zd,Zc,Ze,Zb,tk,Zm,allMarks,hck,hus,hr,ho,List.all_cons]|(with_reducible first|refine cB ?_ ?_|refine oB ?_ ?_|refine dB ?_ ?_)<;>intro _
end
section
def X8 (s n:Int):Int:=if s+n<1000000 then s+n else 1000000
theorem U1 {s n:Int}:(if s+n<1000000 then s+n else 1000000)=X8 s n:=rfl
theorem Yy {s n:Int} (h1:s≤1000000) (h2:0≤n):s≤X8 s n∧X8 s n≤1000000:=by
  unfold X8
  split<;>omega
abbrev EF:=Mod→List Fld→Ex→Int→Int→Int
abbrev BF:=Mod→List Fld→List St→Int→Int→Int × List Fld
def wL (Ef:EF) (m:Mod) (sc:List Fld) (c:Int):List Ex→Int→Int
  | [],s=>s
  | a::r,s=>wL Ef m sc c r (Ef m sc a s c)
def wP (m:Mod):List Fld→Int→Int
  | [],s=>s
  | p::r,s=>wP m r (X8 s (compF m p.ty.kind p.ty.name))
def atF (m:Mod) (k:Int) (nm:Str) (er:Int):Int:=if er=0∧k=7∧wordF nm=0∧stF m nm<0∧bltF nm=false then fnF m nm else -1
def W1 (m:Mod) (sc:List Fld) (k:Int) (t:Ty × Int):Int:=if t.2≠0 then 1 else if k=9 then 4 else mxI 1 (compF m t.1.kind t.1.name)
def Vn (m:Mod) (k:Int) (nm:Str) (er:Int) (as:List Ex):List Ex:=if er=0∧takesF m k nm=true then as.drop 1 else as
def wF (Ef:EF) (Bf:BF) (m:Mod) (i:Int) (s c:Int):Int :=
  if i<0 then s else match m.fs[i.toNat]? with
    | none=>s
    | some f=>wP m f.ps (Ef (m.win i.toNat) (Bf (m.win i.toNat) f.ps f.bodyS s (c+1)).2 f.retE (Bf (m.win i.toNat) f.ps f.bodyS s (c+1)).1 (c+1))
def wE' (A:Int) (Ef:EF) (Bf:BF):EF
  | m,sc,.mk k o nm x fl as,s,c =>
    if s≥1000000 then s
    else if 0≤atF m k nm (exprF m sc (.mk k o nm x fl as)).2∧c>A then X8 s 1
    else wF Ef Bf m (atF m k nm (exprF m sc (.mk k o nm x fl as)).2) (wL Ef m sc c (Vn m k nm (exprF m sc (.mk k o nm x fl as)).2 as) (X8 s (W1 m sc k (exprF m sc (.mk k o nm x fl as))))) c
def wS (Ef:EF) (Bf:BF) (m:Mod) (sc:List Fld) (st:St) (s c:Int):Int :=
  if st.kind=1∨st.kind=2 then
    (if st.kind=2 then Ef m sc st.target (Ef m sc st.value (if (exprF m sc st.value).2=0 then X8 s (compF m (exprF m sc st.value).1.kind (exprF m sc st.value).1.name) else s) c) c
     else Ef m sc st.value (if (exprF m sc st.value).2=0 then X8 s (compF m (exprF m sc st.value).1.kind (exprF m sc st.value).1.name) else s) c)
  else if st.kind=3 then (Bf m sc st.els (Bf m sc st.body (Ef m sc st.value (X8 s 1) c) c).1 c).1
  else (Bf m sc st.els (Bf m sc st.body (X8 s 1) c).1 c).1
def wB' (Ef:EF) (Bf:BF) (m:Mod) (c:Int):List Fld→List St→Int→Int × List Fld
  | sc,[],s=>(s,sc)
  | sc,st::r,s=>if s≥1000000 then (s,sc) else wB' Ef Bf m c (Wk sc st) r (wS Ef Bf m sc st s c)
def W (A:Int):Nat→EF × BF
  | 0=>(fun _ _ _ s _=>s,fun _ sc _ s _=>(s,sc))
  | n+1=>(wE' A (W A n).1 (W A n).2,fun m sc l s c=>wB' (W A n).1 (W A n).2 m c sc l s)
def Ww (Ef:EF):Prop:=∀ m sc e s c,s≤1000000→s≤Ef m sc e s c∧Ef m sc e s c≤1000000
def W2 (Bf:BF):Prop:=∀ m sc l s c,s≤1000000→s≤(Bf m sc l s c).1∧(Bf m sc l s c).1≤1000000
theorem Ul {Ef:EF} (hE:Ww Ef) {m:Mod} {sc:List Fld} {c:Int}:∀ (l:List Ex) (s:Int),s≤1000000→s≤wL Ef m sc c l s∧wL Ef m sc c l s≤1000000
  | [],s,h=>⟨Int.le_refl _,h⟩
  | a::r,s,h=>by
    have h1:=hE m sc a s c h
    have h2:=Ul hE (m:=m) (sc:=sc) (c:=c) r _ h1.2
    simp only [wL]
    omega
theorem Uk {m:Mod}:∀ (l:List Fld) (s:Int),s≤1000000→s≤wP m l s∧wP m l s≤1000000
  | [],s,h=>⟨Int.le_refl _,h⟩
  | p::r,s,h=>by
    have h1:=Yy h (Yt m p.ty.kind p.ty.name).1
    have h2:=Uk (m:=m) r _ h1.2
    simp only [wP]
    omega
theorem Rf {m:Mod} {sc:List Fld} {k:Int} {t:Ty × Int}:1≤W1 m sc k t∧W1 m sc k t≤1000:=by
  have:=Yt m t.1.kind t.1.name
  unfold W1 mxI
  split
  · omega
  · split
    · omega
    · split<;>omega
theorem T9 {Ef:EF} {Bf:BF} (hE:Ww Ef) (hB:W2 Bf) {m:Mod} {i s c:Int} (h:s≤1000000):s≤wF Ef Bf m i s c∧wF Ef Bf m i s c≤1000000:=by
  unfold wF
  split
  · omega
  · split
    · omega
    · rename_i f _
      have h1:=hB (m.win i.toNat) f.ps f.bodyS s (c+1) h
      have h2:=hE (m.win i.toNat) (Bf (m.win i.toNat) f.ps f.bodyS s (c+1)).2 f.retE _ (c+1) h1.2
      have h3:=Uk (m:=m) f.ps _ h2.2
      omega
theorem Uj {Ef:EF} {Bf:BF} (hE:Ww Ef) (hB:W2 Bf) {m:Mod} {sc:List Fld} {st:St} {s c:Int} (h:s≤1000000):s≤wS Ef Bf m sc st s c∧wS Ef Bf m sc st s c≤1000000:=by
  have h1:=Yy h (n:=1) (by omega)
  have h0:s≤(if (exprF m sc st.value).2=0 then X8 s (compF m (exprF m sc st.value).1.kind (exprF m sc st.value).1.name) else s)∧(if (exprF m sc st.value).2=0 then X8 s (compF m (exprF m sc st.value).1.kind (exprF m sc st.value).1.name) else s)≤1000000:=by
    split
    · exact Yy h (Yt _ _ _).1
    · omega
  have h2:=hE m sc st.value _ c h0.2
  have h3:=hE m sc st.target _ c h2.2
  have h4:=hE m sc st.value _ c h1.2
  have h5:=hB m sc st.body _ c h4.2
  have h6:=hB m sc st.els _ c h5.2
  have h7:=hB m sc st.body _ c h1.2
  have h8:=hB m sc st.els _ c h7.2
  unfold wS
  split
  · split<;>omega
  · split<;>omega
theorem Um {Ef:EF} {Bf:BF} (hE:Ww Ef) (hB:W2 Bf) {m:Mod} {c:Int}:∀ (l:List St) (sc:List Fld) (s:Int),s≤1000000→s≤(wB' Ef Bf m c sc l s).1∧(wB' Ef Bf m c sc l s).1≤1000000
  | [],sc,s,h=>⟨Int.le_refl _,h⟩
  | st::r,sc,s,h=>by
    have h1:=Uj hE hB (m:=m) (sc:=sc) (st:=st) (c:=c) h
    have h2:=Um hE hB (m:=m) (c:=c) r (Wk sc st) _ h1.2
    simp only [wB']
    split<;>omega
theorem Ui (A:Int):∀ n,Ww (W A n).1∧W2 (W A n).2
  | 0=>⟨fun _ _ _ s _ h=>⟨Int.le_refl _,h⟩,fun _ _ _ s _ h=>⟨Int.le_refl _,h⟩⟩
  | n+1=>by
    obtain ⟨hE,hB⟩:=Ui A n
    refine ⟨fun m sc e s c h=>?_,fun m sc l s c h=>Um hE hB l sc s h⟩
    obtain ⟨k,o,nm,x,fl,as⟩:=e
    show s≤wE' A (W A n).1 (W A n).2 m sc (.mk k o nm x fl as) s c∧wE' A (W A n).1 (W A n).2 m sc (.mk k o nm x fl as) s c≤1000000
    have h1:=Yy h (n:=1) (by omega)
    have h2:=Yy h (n:=W1 m sc k (exprF m sc (.mk k o nm x fl as))) (by have:=@Rf m sc k (exprF m sc (.mk k o nm x fl as));omega)
    have h3:=Ul hE (m:=m) (sc:=sc) (c:=c) (Vn m k nm (exprF m sc (.mk k o nm x fl as)).2 as) _ h2.2
    have h4:=T9 hE hB (m:=m) (i:=atF m k nm (exprF m sc (.mk k o nm x fl as)).2) (c:=c) h3.2
    simp only [wE']
    split
    · omega
    · split<;>omega
theorem Tb {m:Mod} {sc:List Fld} {k o x:Int} {nm:Str} {fl:Fl} {as:List Ex} (h:(exprF m sc (.mk k o nm x fl as)).2=0) (ht:takesF m k nm=true):as≠[]:=by
  rintro rfl
  simp only [takesF,Bool.and_eq_true,decide_eq_true_eq] at ht
  obtain ⟨hm,hk,hs⟩:=ht
  subst hk
  have hw:¬ 0<wordF nm:=by
    simp only [resNames,List.mem_cons,List.not_mem_nil,or_false] at hm
    rcases hm with rfl|rfl|rfl|rfl|rfl<;>decide
  have hc:callF m sc nm [] []=(tz,11):=by
    rw [callF,if_neg hw,if_neg (by omega),if_pos hm]
    rfl
  have hn:nodeF m sc 7 o nm x [] []=(tz,11):=by
    unfold nodeF
    simp [hc]
  rw [exprF,if_neg (by simp)] at h
  simp only [argsF,hn] at h
  simp [outF] at h
abbrev wO (A s c:Int):Option Ob:=some (.mem [.agg [.int .i64 A,.int .i64 s,.int .i64 c]] 1 false 3)
theorem Wf {k:Nat} {A s c:Int}:obLow k (wO A s c)=true:=by simp [obLow,PV.lowL,PV.low]
theorem X6 (A s c n:Int) (h1:0≤s) (h2:s≤1000000) (h3:0≤n) (h4:n≤1000) (H:Heap) (hH:heapLow (H.length+1) H=true) :
    doCall E (callR E) 94 [.ptr (0,0) 1 0 0,.int .i64 n] ([wO A s c]::H)=some (.tuple [],[wO A (X8 s n) c]::H):=by
  have hw:=fun s=>Wf (k:=H.length+1) (A:=A) (s:=s) (c:=c)
  refine Z7 (pf:=p94) rfl rfl rfl rfl rfl (by simp [PV.lowL,PV.low]) ?_
  show kQ E _ (endM [] _ _ _) .norm { lvl:=H.length+1,tmps:=mk 14 [(0,.ptr (0,0) 1 0 0),(1,.int .i64 n)],heap:=[wO A s c]::(H++[[]]),defers:=[] }
  repeat' first|(with_reducible first|refine cS ?_ ?_|refine oS ?_ ?_|refine dS ?_ ?_)<;>intro _|((with_reducible refine kk ?_ ?_);·rfl)|simp -implicitDefEqProofs(disch:=first|omega|assumption)only[push_cast,simprocAttr,Zd,Zc,Ze,Zb,U1,Zn,allMarks,hw,hH,List.all_cons,List.all_nil]|(with_reducible first|refine cB ?_ ?_|refine oB ?_ ?_|refine dB ?_ ?_)<;>intro _
end
section
abbrev wH (A q c:Int) (H:Heap):Heap:=[wO A q c]::H
theorem Wj {H:Heap} {L:List (Option Ob)} (hH:heapLow (H.length+1) H=true) (hL:∀ k,L.all (obLow k)=true):heapLow ((H++[L]).length+1) (H++[L])=true:=by
  have e:(H++[L]).length+1=H.length+1+1:=by simp
  rw [e]
  have h1:=heapLow_s hH
  unfold heapLow at h1 ⊢
  rw [List.all_append,h1,List.all_cons,hL]
  rfl
def Wo (Ef:EF) (m:Mod) (sc:List Fld) (A c:Int) (e:Ex):Prop:=∀ (fs:Fl) (q:Int) (H:Heap),0≤q→q≤1000000→heapLow (H.length+1) H=true →
  doCall E (callR E) 95 [.ptr (0,0) 1 0 0,.agg m.c,.vs fs (flds sc),.agg e.c] (wH A q c H)=some (.tuple [],wH A (Ef m sc e q c) c H)
set_option maxHeartbeats 4000000 in
theorem We (m:Mod) (sc:List Fld) (as:List Ex) (has:as.length≤1048576) {fs fl:Fl} (Ef:EF) (hm:Ww Ef) (A c:Int) (hE:∀ a∈as,Wo Ef m sc A c a) (H:Heap) (hH:heapLow (H.length+1) H=true) {o0 o2 o3 o4:Option Ob} (ho:∀ k,[o0,o2,o3,o4].all (obLow k)=true) {v10:PV} (fin:Int) {ks:List KI} {Q:PEx→Fr→Prop}
    (hn:∀ t (q:Int) (o1:Option Ob),q=fin→0≤q→q≤1000000→(∀ k,obLow k o1=true)→look t 0=.ptr (0,0) 1 0 0→look t 5=.ip m.c→look t 10=v10→kQ E ks Q .norm { lvl:=H.length+1,tmps:=mk 168 t,heap:=wH A q c (H++[[o0,o1,o2,o3,o4]]),defers:=[] }) :
    ∀ (rest pre:List Ex) (q:Int) (o1:Option Ob) (t:List (Nat × PV)),as=pre++rest→(wL Ef m sc c rest q=fin)→(0≤q)→(q≤1000000)→(∀ k,obLow k o1=true) →
      look t 0=.ptr (0,0) 1 0 0→look t 2=.vs fs (flds sc)→look t 5=.ip m.c→look t 10=v10→look t 104=.vs fl (exs as)→look t 105=.int .i64 as.length→look t 106=.int .i64 pre.length →
      kQ E (.code p95l0::.blk 1::ks) Q .norm { lvl:=H.length+1,tmps:=mk 168 t,heap:=wH A q c (H++[[o0,o1,o2,o3,o4]]),defers:=[] }:=by
  intro rest
  have h1':=m.hm
  induction rest with
  | nil =>
    intro pre q o1 t hl hi0 hi1 hi2 hi3 h0 h2 h5 h10 h104 h105 h106
    have e:as.length=pre.length:=by rw [hl];simp
    refine loopK' (c:=p95l0) rfl ?_
    repeat' first|(with_reducible first|refine cS ?_ ?_|refine oS ?_ ?_|refine dS ?_ ?_)<;>intro _|((with_reducible refine kk ?_ ?_);·rfl)|simp -implicitDefEqProofs(disch:=first|omega|assumption)only[push_cast,simprocAttr,Zd,Zc,Ze,Zb,h0,h2,h5,h10,h104,h105,h106,e]|(with_reducible first|refine cB ?_ ?_|refine oB ?_ ?_|refine dB ?_ ?_)<;>intro _
    exact hn _ _ _ hi0 hi1 hi2 hi3 (by simp [look,Za,h0]) (by simp [look,Za,h5]) (by simp [look,Za,h10])
  | cons s r ih =>
    intro pre q o1 t hl hi0 hi1 hi2 hi3 h0 h2 h5 h10 h104 h105 h106
    have e:as.length=pre.length+r.length+1:=by rw [hl];simp;omega
    have hg:(exs as)[pre.length]?=some (.agg [.int .i64 s.kind,.int .i64 s.op,.str s.name,.int .i64 s.value,.vs s.fl (exs s.args)]):=by rw [hl,exs_map,← s.c_eq];exact Yd _ _ _ _
    have ho':∀ g k,[o0,some (.mem [.agg s.c] g false 5),o2,o3,o4].all (obLow k)=true:=fun g k=>by
      have:=ho k
      have h2:=PV.lowL_k (k:=k) _ s.low
      simp only [List.all_cons,List.all_nil,Bool.and_true,Bool.and_eq_true] at this ⊢
      exact ⟨this.1,by simp [obLow,PV.lowL,PV.low,h2],this.2⟩
    have hq:=fun g=>hE s (by rw [hl];simp) fs q (H++[[o0,some (.mem [.agg s.c] g false 5),o2,o3,o4]]) hi1 hi2 (Wj hH (ho' g))
    have hmo:=hm m sc s q c hi2
    rw [s.c_eq] at hq
    refine loopK' (c:=p95l0) rfl ?_
    repeat' first|(with_reducible first|refine cS ?_ ?_|refine oS ?_ ?_|refine dS ?_ ?_)<;>intro _|((with_reducible refine kk ?_ ?_);·rfl)|simp -implicitDefEqProofs(disch:=first|omega|assumption)only[push_cast,simprocAttr,Zd,Zc,Ze,Zb,h0,h2,h5,h10,h104,h105,h106,hg,h1',hq]|(with_reducible first|refine cB ?_ ?_|refine oB ?_ ?_|refine dB ?_ ?_)<;>intro _
    refine ih (pre++[s]) (Ef m sc s q c) _ _ (by simp [hl]) hi0 (by omega) hmo.2 (by intro k;simp [obLow,PV.lowL,PV.low]) (by simp [look,Za,h0]) (by simp [look,Za,h2]) (by simp [look,Za,h5]) (by simp [look,Za,h10]) (by simp [look,Za,h104]) (by simp [look,Za,h105]) (by simp [look,Za,h106])
set_option maxHeartbeats 4000000 in
theorem U6 (m:Mod) (hm:m.Ok) (ps:List Fld) (hps:ps.length≤1048576) {f:Fl} (A c:Int) (H:Heap) (hH:heapLow (H.length+1) H=true) {o0 o1 o2 o3:Option Ob} (ho:∀ k,[o0,o1,o2,o3].all (obLow k)=true) (fin:Int) {ks:List KI} {Q:PEx→Fr→Prop}
    (hn:∀ t (q:Int) (o4:Option Ob),q=fin→kQ E ks Q .norm { lvl:=H.length+1,tmps:=mk 168 t,heap:=wH A q c (H++[[o0,o1,o2,o3,o4]]),defers:=[] }) :
    ∀ (rest pre:List Fld) (q:Int) (o4:Option Ob) (t:List (Nat × PV)),ps=pre++rest→(wP m rest q=fin)→(0≤q)→(q≤1000000) →
      look t 0=.ptr (0,0) 1 0 0→look t 5=.ip m.c→look t 155=.vs f (flds ps)→look t 156=.int .i64 ps.length→look t 157=.int .i64 pre.length →
      kQ E (.code p95l1::.blk 3::ks) Q .norm { lvl:=H.length+1,tmps:=mk 168 t,heap:=wH A q c (H++[[o0,o1,o2,o3,o4]]),defers:=[] }:=by
  intro rest
  have h1':=m.hm
  induction rest with
  | nil =>
    intro pre q o4 t hl hi0 hi1 hi2 h0 h5 h155 h156 h157
    have e:ps.length=pre.length:=by rw [hl];simp
    refine loopK' (c:=p95l1) rfl ?_
    repeat' first|(with_reducible first|refine cS ?_ ?_|refine oS ?_ ?_|refine dS ?_ ?_)<;>intro _|((with_reducible refine kk ?_ ?_);·rfl)|simp -implicitDefEqProofs(disch:=first|omega|assumption)only[push_cast,simprocAttr,Zd,Zc,Ze,Zb,h0,h5,h155,h156,h157,e]|(with_reducible first|refine cB ?_ ?_|refine oB ?_ ?_|refine dB ?_ ?_)<;>intro _
    exact hn _ _ _ hi0
  | cons s r ih =>
    intro pre q o4 t hl hi0 hi1 hi2 h0 h5 h155 h156 h157
    have e:ps.length=pre.length+r.length+1:=by rw [hl];simp;omega
    have hg:(flds ps)[pre.length]?=some (.agg [.str s.name,.int .i64 s.ty.kind,.str s.ty.name]):=by rw [hl];exact Yd _ _ _ _
    have ho':∀ g k,[o0,o1,o2,o3,some (.mem [.agg [.str s.name,.int .i64 s.ty.kind,.str s.ty.name]] g false 3)].all (obLow k)=true:=fun g k=>by
      have:=ho k
      simp only [List.all_cons,List.all_nil,Bool.and_true,Bool.and_eq_true] at this ⊢
      exact ⟨this.1,this.2.1,this.2.2.1,this.2.2.2,by simp [obLow,PV.lowL,PV.low]⟩
    have hcb:=Yt m s.ty.kind s.ty.name
    have hq:=fun g=>X6 A q c (compF m s.ty.kind s.ty.name) hi1 hi2 hcb.1 hcb.2 (H++[[o0,o1,o2,o3,some (.mem [.agg [.str s.name,.int .i64 s.ty.kind,.str s.ty.name]] g false 3)]]) (Wj hH (ho' g))
    have hc:=fun h=>Xh m hm s.ty.kind s.ty.name h
    have hmo:=Yy hi2 hcb.1
    refine loopK' (c:=p95l1) rfl ?_
    repeat' first|(with_reducible first|refine cS ?_ ?_|refine oS ?_ ?_|refine dS ?_ ?_)<;>intro _|((with_reducible refine kk ?_ ?_);·rfl)|simp -implicitDefEqProofs(disch:=first|omega|assumption)only[push_cast,simprocAttr,Zd,Zc,Ze,Zb,h0,h5,h155,h156,h157,hg,h1',hc,hq]|(with_reducible first|refine cB ?_ ?_|refine oB ?_ ?_|refine dB ?_ ?_)<;>intro _
    refine ih (pre++[s]) (X8 q (compF m s.ty.kind s.ty.name)) _ _ (by simp [hl]) hi0 (by omega) hmo.2 (by simp [look,Za,h0]) (by simp [look,Za,h5]) (by simp [look,Za,h155]) (by simp [look,Za,h156]) (by simp [look,Za,h157])
end
end Go.VI.S
