/- Chapter 28: the first place with a name. -/
import Derived.Test.YtjhaldbohblieaaGreatDoorF28a
import Derived.Test.YtjhaldbohblieaaGreatDoorVC
set_option maxRecDepth 100000
set_option linter.unusedSimpArgs false
set_option linter.unusedVariables false
set_option linter.unusedSectionVars false
namespace Go.VI.S
open Go.VI
section
theorem idxG_nat {α:Type} (p:α→Bool):∀ (l:List α) (i:Int),idxG p l i = -1∨(i≤idxG p l i∧idxG p l i<i+l.length)
  | [],i=>.inl rfl
  | a::r,i=>by
    have:=idxG_nat p r (i+1)
    unfold idxG
    split
    · right;simp;omega
    · rcases this with h|h
      · exact .inl h
      · right;simp;omega
theorem Xq {α:Type} (p:α→Bool) (l:List α) : -1≤idxF p l∧idxF p l<l.length∧(idxF p l<0→idxF p l = -1):=by
  rcases idxG_nat p l 0 with h|h<;>unfold idxF<;>omega
theorem Yd {α:Type} (f:α→PV) (pre:List α) (x:α) (r:List α):((pre++x::r).map f)[pre.length]?=some (f x):=by simp
theorem ixs_loop {fl:Fl} {l:List Sct} {nm:Str} (hb:l.length≤140737488355328) {ks:List KI} {Q:PEx→Fr→Prop}
    (hr:∀ t,look t 4=.int .i64 (idxF (fun s=>decide (s.name=nm)) l)→kQ E ks Q .ret { lvl:=0,tmps:=mk 19 t,heap:=[[]],defers:=[] })
    (hn:∀ t,idxF (fun s=>decide (s.name=nm)) l = -1→kQ E ks Q .norm { lvl:=0,tmps:=mk 19 t,heap:=[[]],defers:=[] }) :
    ∀ (rest pre:List Sct) (t:List (Nat × PV)),l=pre++rest→idxG (fun s=>decide (s.name=nm)) rest pre.length=idxF (fun s=>decide (s.name=nm)) l →
      look t 0=.vs fl (scts l)→look t 1=.fn 78 [] [.ip [.str nm]]→look t 7=.int .i64 l.length→look t 8=.int .i64 pre.length →
      kQ E (.code p77l0::.blk 0::ks) Q .norm { lvl:=0,tmps:=mk 19 t,heap:=[[]],defers:=[] }:=by
  intro rest
  induction rest with
  | nil =>
    intro pre t hl hi h0 h1 h7 h8
    have e:l.length=pre.length:=by rw [hl];simp
    refine loopK' (c:=p77l0) rfl ?_
    repeat' first|(with_reducible first|refine cS ?_ ?_|refine oS ?_ ?_|refine dS ?_ ?_)<;>intro _|((with_reducible refine kk ?_ ?_);·rfl)|simp -implicitDefEqProofs(disch:=first|omega|assumption)only[push_cast,simprocAttr,Zd,Zc,Ze,Zb,h0,h1,h7,h8,e]|(with_reducible first|refine cB ?_ ?_|refine oB ?_ ?_|refine dB ?_ ?_)<;>intro _
    exact hn _ hi.symm
  | cons s r ih =>
    intro pre t hl hi h0 h1 h7 h8
    have e:l.length=pre.length+r.length+1:=by rw [hl];simp;omega
    have hg:(scts l)[pre.length]?=some (.agg [.str s.name,.vs s.fl (flds s.fs)]):=by rw [hl];exact Yd _ _ _ _
    skip
    refine loopK' (c:=p77l0) rfl ?_
    repeat' first|(with_reducible first|refine cS ?_ ?_|refine oS ?_ ?_|refine dS ?_ ?_)<;>intro _|((with_reducible refine kk ?_ ?_);·rfl)|simp -implicitDefEqProofs(disch:=first|omega|assumption)only[push_cast,simprocAttr,Zd,Zc,Ze,Zb,h0,h1,h7,h8,hg,steq_ok,List.take_left',List.take_append_of_le_length,List.take_of_length_le]|(with_reducible first|refine cB ?_ ?_|refine oB ?_ ?_|refine dB ?_ ?_)<;>intro _
    · rename_i hp
      refine hr _ ?_
      simp only [look,if_pos,↓reduceIte,Nat.reduceEqDiff]
      rw [← hi]
      simp [idxG,hp]
    · rename_i hp
      refine ih (pre++[s]) _ (by simp [hl]) ?_ (by simp [look,Za,h0]) (by simp [look,Za,h1]) (by simp [look,Za,h7]) (by simp [look,Za])
      rw [← hi]
      simp [idxG,hp]
theorem ixs_ok (fl:Fl) (l:List Sct) (nm:Str) (hb:l.length≤140737488355328) (h:Heap):doCall E (callR E) 77 [.vs fl (scts l),.fn 78 [] [.ip [.str nm]]] h=some (.int .i64 (idxF (fun s=>decide (s.name=nm)) l),h):=by
  refine Zg (pf:=p77) rfl rfl rfl rfl (by simp [PV.lowL,PV.low,Zk]) (by simp [PV.low,PV.lowL,Zk]) ?_ h
  show kQ E _ (endQ [⟨4,none⟩] _) .norm { lvl:=0,tmps:=mk 19 [(0,.vs fl (scts l)),(1,.fn 78 [] [.ip [.str nm]])],heap:=[[]],defers:=[] }
  repeat' first|(with_reducible first|refine cS ?_ ?_|refine oS ?_ ?_|refine dS ?_ ?_)<;>intro _|((with_reducible refine kk ?_ ?_);·rfl)|simp -implicitDefEqProofs(disch:=first|omega|assumption)only[push_cast,simprocAttr,Zd,Zc,Ze,Zb]|(with_reducible first|refine cB ?_ ?_|refine oB ?_ ?_|refine dB ?_ ?_)<;>intro _
  refine ixs_loop (fl:=fl) (nm:=nm) hb ?_ ?_ l [] _ rfl rfl (by simp [look,Za]) (by simp [look,Za]) (by simp [look,Za]) (by simp [look,Za])
  all_goals
    intro t h4
    repeat' first|(with_reducible first|refine cS ?_ ?_|refine oS ?_ ?_|refine dS ?_ ?_)<;>intro _|((with_reducible refine kk ?_ ?_);·rfl)|simp -implicitDefEqProofs(disch:=first|omega|assumption)only[push_cast,simprocAttr,Zd,Zc,Ze,Zb,h4]|(with_reducible first|refine cB ?_ ?_|refine oB ?_ ?_|refine dB ?_ ?_)<;>intro _
theorem ixn_loop {fl:Fl} {l:List Fun'} {nm:Str} (hb:l.length≤140737488355328) {ks:List KI} {Q:PEx→Fr→Prop}
    (hr:∀ t,look t 4=.int .i64 (idxF (fun s=>decide (s.name=nm)) l)→kQ E ks Q .ret { lvl:=0,tmps:=mk 19 t,heap:=[[]],defers:=[] })
    (hn:∀ t,idxF (fun s=>decide (s.name=nm)) l = -1→kQ E ks Q .norm { lvl:=0,tmps:=mk 19 t,heap:=[[]],defers:=[] }) :
    ∀ (rest pre:List Fun') (t:List (Nat × PV)),l=pre++rest→idxG (fun s=>decide (s.name=nm)) rest pre.length=idxF (fun s=>decide (s.name=nm)) l →
      look t 0=.vs fl (funs l)→look t 1=.fn 171 [] [.ip [.str nm]]→look t 7=.int .i64 l.length→look t 8=.int .i64 pre.length →
      kQ E (.code p170l0::.blk 0::ks) Q .norm { lvl:=0,tmps:=mk 19 t,heap:=[[]],defers:=[] }:=by
  intro rest
  induction rest with
  | nil =>
    intro pre t hl hi h0 h1 h7 h8
    have e:l.length=pre.length:=by rw [hl];simp
    refine loopK' (c:=p170l0) rfl ?_
    repeat' first|(with_reducible first|refine cS ?_ ?_|refine oS ?_ ?_|refine dS ?_ ?_)<;>intro _|((with_reducible refine kk ?_ ?_);·rfl)|simp -implicitDefEqProofs(disch:=first|omega|assumption)only[push_cast,simprocAttr,Zd,Zc,Ze,Zb,h0,h1,h7,h8,e]|(with_reducible first|refine cB ?_ ?_|refine oB ?_ ?_|refine dB ?_ ?_)<;>intro _
    exact hn _ hi.symm
  | cons s r ih =>
    intro pre t hl hi h0 h1 h7 h8
    have e:l.length=pre.length+r.length+1:=by rw [hl];simp;omega
    have hg:(funs l)[pre.length]?=some (.agg (.str s.name::.vs s.fl (flds s.ps)::.int .i64 s.res.kind::.str s.res.name::.vs s.fb s.body::s.ret)):=by rw [hl];exact Yd _ _ _ _
    have hrl:=s.hl
    refine loopK' (c:=p170l0) rfl ?_
    repeat' first|(with_reducible first|refine cS ?_ ?_|refine oS ?_ ?_|refine dS ?_ ?_)<;>intro _|((with_reducible refine kk ?_ ?_);·rfl)|simp -implicitDefEqProofs(disch:=first|omega|assumption)only[push_cast,simprocAttr,Zd,Zc,Ze,Zb,h0,h1,h7,h8,hg,fneq_ok,List.take_left',List.take_append_of_le_length,List.take_of_length_le,hrl,Fun'.ret_take]|(with_reducible first|refine cB ?_ ?_|refine oB ?_ ?_|refine dB ?_ ?_)<;>intro _
    · rename_i hp
      refine hr _ ?_
      simp only [look,if_pos,↓reduceIte,Nat.reduceEqDiff]
      rw [← hi]
      simp [idxG,hp]
    · rename_i hp
      refine ih (pre++[s]) _ (by simp [hl]) ?_ (by simp [look,Za,h0]) (by simp [look,Za,h1]) (by simp [look,Za,h7]) (by simp [look,Za])
      rw [← hi]
      simp [idxG,hp]
theorem ixn_ok (fl:Fl) (l:List Fun') (nm:Str) (hb:l.length≤140737488355328) (h:Heap):doCall E (callR E) 170 [.vs fl (funs l),.fn 171 [] [.ip [.str nm]]] h=some (.int .i64 (idxF (fun s=>decide (s.name=nm)) l),h):=by
  refine Zg (pf:=p170) rfl rfl rfl rfl (by simp [PV.lowL,PV.low,Zl]) (by simp [PV.low,PV.lowL,Zl]) ?_ h
  show kQ E _ (endQ [⟨4,none⟩] _) .norm { lvl:=0,tmps:=mk 19 [(0,.vs fl (funs l)),(1,.fn 171 [] [.ip [.str nm]])],heap:=[[]],defers:=[] }
  repeat' first|(with_reducible first|refine cS ?_ ?_|refine oS ?_ ?_|refine dS ?_ ?_)<;>intro _|((with_reducible refine kk ?_ ?_);·rfl)|simp -implicitDefEqProofs(disch:=first|omega|assumption)only[push_cast,simprocAttr,Zd,Zc,Ze,Zb]|(with_reducible first|refine cB ?_ ?_|refine oB ?_ ?_|refine dB ?_ ?_)<;>intro _
  refine ixn_loop (fl:=fl) (nm:=nm) hb ?_ ?_ l [] _ rfl rfl (by simp [look,Za]) (by simp [look,Za]) (by simp [look,Za]) (by simp [look,Za])
  all_goals
    intro t h4
    repeat' first|(with_reducible first|refine cS ?_ ?_|refine oS ?_ ?_|refine dS ?_ ?_)<;>intro _|((with_reducible refine kk ?_ ?_);·rfl)|simp -implicitDefEqProofs(disch:=first|omega|assumption)only[push_cast,simprocAttr,Zd,Zc,Ze,Zb,h4]|(with_reducible first|refine cB ?_ ?_|refine oB ?_ ?_|refine dB ?_ ?_)<;>intro _
theorem ixf_loop {fl:Fl} {l:List Fld} {nm:Str} (hb:l.length≤140737488355328) {ks:List KI} {Q:PEx→Fr→Prop}
    (hr:∀ t,look t 4=.int .i64 (idxF (fun s=>decide (s.name=nm)) l)→kQ E ks Q .ret { lvl:=0,tmps:=mk 19 t,heap:=[[]],defers:=[] })
    (hn:∀ t,idxF (fun s=>decide (s.name=nm)) l = -1→kQ E ks Q .norm { lvl:=0,tmps:=mk 19 t,heap:=[[]],defers:=[] }) :
    ∀ (rest pre:List Fld) (t:List (Nat × PV)),l=pre++rest→idxG (fun s=>decide (s.name=nm)) rest pre.length=idxF (fun s=>decide (s.name=nm)) l →
      look t 0=.vs fl (flds l)→look t 1=.fn 160 [] [.ip [.str nm]]→look t 7=.int .i64 l.length→look t 8=.int .i64 pre.length →
      kQ E (.code p159l0::.blk 0::ks) Q .norm { lvl:=0,tmps:=mk 19 t,heap:=[[]],defers:=[] }:=by
  intro rest
  induction rest with
  | nil =>
    intro pre t hl hi h0 h1 h7 h8
    have e:l.length=pre.length:=by rw [hl];simp
    refine loopK' (c:=p159l0) rfl ?_
    repeat' first|(with_reducible first|refine cS ?_ ?_|refine oS ?_ ?_|refine dS ?_ ?_)<;>intro _|((with_reducible refine kk ?_ ?_);·rfl)|simp -implicitDefEqProofs(disch:=first|omega|assumption)only[push_cast,simprocAttr,Zd,Zc,Ze,Zb,h0,h1,h7,h8,e]|(with_reducible first|refine cB ?_ ?_|refine oB ?_ ?_|refine dB ?_ ?_)<;>intro _
    exact hn _ hi.symm
  | cons s r ih =>
    intro pre t hl hi h0 h1 h7 h8
    have e:l.length=pre.length+r.length+1:=by rw [hl];simp;omega
    have hg:(flds l)[pre.length]?=some (.agg [.str s.name,.int .i64 s.ty.kind,.str s.ty.name]):=by rw [hl];exact Yd _ _ _ _
    skip
    refine loopK' (c:=p159l0) rfl ?_
    repeat' first|(with_reducible first|refine cS ?_ ?_|refine oS ?_ ?_|refine dS ?_ ?_)<;>intro _|((with_reducible refine kk ?_ ?_);·rfl)|simp -implicitDefEqProofs(disch:=first|omega|assumption)only[push_cast,simprocAttr,Zd,Zc,Ze,Zb,h0,h1,h7,h8,hg,fdeq_ok,List.take_left',List.take_append_of_le_length,List.take_of_length_le]|(with_reducible first|refine cB ?_ ?_|refine oB ?_ ?_|refine dB ?_ ?_)<;>intro _
    · rename_i hp
      refine hr _ ?_
      simp only [look,if_pos,↓reduceIte,Nat.reduceEqDiff]
      rw [← hi]
      simp [idxG,hp]
    · rename_i hp
      refine ih (pre++[s]) _ (by simp [hl]) ?_ (by simp [look,Za,h0]) (by simp [look,Za,h1]) (by simp [look,Za,h7]) (by simp [look,Za])
      rw [← hi]
      simp [idxG,hp]
theorem ixf_ok (fl:Fl) (l:List Fld) (nm:Str) (hb:l.length≤140737488355328) (h:Heap):doCall E (callR E) 159 [.vs fl (flds l),.fn 160 [] [.ip [.str nm]]] h=some (.int .i64 (idxF (fun s=>decide (s.name=nm)) l),h):=by
  refine Zg (pf:=p159) rfl rfl rfl rfl (by simp [PV.lowL,PV.low,Zi]) (by simp [PV.low,PV.lowL,Zi]) ?_ h
  show kQ E _ (endQ [⟨4,none⟩] _) .norm { lvl:=0,tmps:=mk 19 [(0,.vs fl (flds l)),(1,.fn 160 [] [.ip [.str nm]])],heap:=[[]],defers:=[] }
  repeat' first|(with_reducible first|refine cS ?_ ?_|refine oS ?_ ?_|refine dS ?_ ?_)<;>intro _|((with_reducible refine kk ?_ ?_);·rfl)|simp -implicitDefEqProofs(disch:=first|omega|assumption)only[push_cast,simprocAttr,Zd,Zc,Ze,Zb]|(with_reducible first|refine cB ?_ ?_|refine oB ?_ ?_|refine dB ?_ ?_)<;>intro _
  refine ixf_loop (fl:=fl) (nm:=nm) hb ?_ ?_ l [] _ rfl rfl (by simp [look,Za]) (by simp [look,Za]) (by simp [look,Za]) (by simp [look,Za])
  all_goals
    intro t h4
    repeat' first|(with_reducible first|refine cS ?_ ?_|refine oS ?_ ?_|refine dS ?_ ?_)<;>intro _|((with_reducible refine kk ?_ ?_);·rfl)|simp -implicitDefEqProofs(disch:=first|omega|assumption)only[push_cast,simprocAttr,Zd,Zc,Ze,Zb,h4]|(with_reducible first|refine cB ?_ ?_|refine oB ?_ ?_|refine dB ?_ ?_)<;>intro _
end
section
def stF (m:Mod) (nm:Str):Int:=idxF (fun s=>decide (s.name=nm)) m.ss
def fnF (m:Mod) (nm:Str):Int:=idxF (fun s=>decide (s.name=nm)) m.fs
def fdF (l:List Fld) (nm:Str):Int:=idxF (fun s=>decide (s.name=nm)) l
theorem Yr (m:Mod) (hm:m.Ok) (nm:Str) (h:Heap):doCall E (callR E) 46 [.agg m.c,.str nm] h=some (.int .i64 (stF m nm),h):=by
  have h1:=m.hm
  have h2:=hm.ss
  refine Zg (pf:=p46) rfl rfl rfl rfl (by simp [PV.lowL,PV.low,Zj,Zi,Zk,Zl,h1]) (by simp [PV.low,PV.lowL,Zj,Zi,Zk,Zl,h1]) ?_ h
  show kQ E _ (endQ [⟨4,none⟩] _) .norm { lvl:=0,tmps:=mk 9 [(0,.agg m.c),(1,.str nm)],heap:=[[]],defers:=[] }
  repeat' first|(with_reducible first|refine cS ?_ ?_|refine oS ?_ ?_|refine dS ?_ ?_)<;>intro _|((with_reducible refine kk ?_ ?_);·rfl)|simp -implicitDefEqProofs(disch:=first|omega|assumption)only[push_cast,simprocAttr,Zd,Zc,Ze,Zb,ixs_ok,h1,stF]|(with_reducible first|refine cB ?_ ?_|refine oB ?_ ?_|refine dB ?_ ?_)<;>intro _
theorem Xj (m:Mod) (hm:m.Ok) (nm:Str) (h:Heap):doCall E (callR E) 134 [.agg m.c,.str nm] h=some (.int .i64 (fnF m nm),h):=by
  have h1:=m.hm
  have h2:=hm.fs
  refine Zg (pf:=p134) rfl rfl rfl rfl (by simp [PV.lowL,PV.low,Zj,Zi,Zk,Zl,h1]) (by simp [PV.low,PV.lowL,Zj,Zi,Zk,Zl,h1]) ?_ h
  show kQ E _ (endQ [⟨4,none⟩] _) .norm { lvl:=0,tmps:=mk 9 [(0,.agg m.c),(1,.str nm)],heap:=[[]],defers:=[] }
  repeat' first|(with_reducible first|refine cS ?_ ?_|refine oS ?_ ?_|refine dS ?_ ?_)<;>intro _|((with_reducible refine kk ?_ ?_);·rfl)|simp -implicitDefEqProofs(disch:=first|omega|assumption)only[push_cast,simprocAttr,Zd,Zc,Ze,Zb,ixn_ok,h1,fnF]|(with_reducible first|refine cB ?_ ?_|refine oB ?_ ?_|refine dB ?_ ?_)<;>intro _
theorem Xt (f:Fl) (l:List Fld) (hl:l.length≤1048576) (nm:Str) (h:Heap):doCall E (callR E) 119 [.vs f (flds l),.str nm] h=some (.int .i64 (fdF l nm),h):=by
  refine Zg (pf:=p119) rfl rfl rfl rfl (by simp [PV.lowL,PV.low,Zi]) (by simp [PV.low,PV.lowL,Zi]) ?_ h
  show kQ E _ (endQ [⟨4,none⟩] _) .norm { lvl:=0,tmps:=mk 8 [(0,.vs f (flds l)),(1,.str nm)],heap:=[[]],defers:=[] }
  repeat' first|(with_reducible first|refine cS ?_ ?_|refine oS ?_ ?_|refine dS ?_ ?_)<;>intro _|((with_reducible refine kk ?_ ?_);·rfl)|simp -implicitDefEqProofs(disch:=first|omega|assumption)only[push_cast,simprocAttr,Zd,Zc,Ze,Zb,ixf_ok,fdF]|(with_reducible first|refine cB ?_ ?_|refine oB ?_ ?_|refine dB ?_ ?_)<;>intro _
end
section
def ints (zs:List Int):List PV:=zs.map (PV.int .i64)
def at' (zs:List Int) (i:Int):Int:=zs.getD i.toNat 0
theorem ints_len {zs:List Int}:(ints zs).length=zs.length:=by simp [ints]
theorem ints_low {zs:List Int}:PV.lowL 0 (ints zs)=true:=low_map _ (fun _=>rfl) zs
theorem ints_get {zs:List Int} {j:Int} (h0:0≤j) (h1:j<zs.length):(ints zs)[j.toNat]?=some (.int .i64 (at' zs j)):=by
  have:j.toNat<zs.length:=by omega
  simp [ints,at',List.getElem?_eq_getElem this]
theorem ints_take {r:List Int}:(ints r).take r.length=ints r:=List.take_of_length_le (by simp [ints])
theorem ints_take' {r:List Int} {n:Nat} (h:n=r.length):(ints r).take n=ints r:=by subst h;exact ints_take
theorem repl_ints {n:Nat}:List.replicate n (PV.int .i64 0)=ints (List.replicate n 0):=by simp [ints]
theorem at_mid {acc zs:List Int} {n j:Int} (h:j=acc.length):at' (acc++n::zs) j=n:=by subst h;simp [at']
theorem at_low {acc zs:List Int} {j:Int} (h0:0≤j) (h:j<acc.length):at' (acc++zs) j=at' acc j:=by
  have:j.toNat<acc.length:=by omega
  simp [at',List.getD,List.getElem?_append_left this]
theorem set_mid {acc zs:List Int} {n k:Int} {j:Nat} (h:j=acc.length):(ints (acc++n::zs)).set j (.int .i64 k)=ints (acc++k::zs):=by
  subst h
  simp [ints]
def compG (m:Mod) (acc:List Int) (k:Int) (nm:Str):Int:=if k=8 then (if stF m nm<0∨acc.length≤stF m nm then 0 else at' acc (stF m nm)) else plainF k
def sumG (m:Mod) (acc:List Int):List Fld→Int→Int
  | [],n=>n
  | f::r,n=>sumG m acc r (if n+compG m acc f.ty.kind f.ty.name<1000 then n+compG m acc f.ty.kind f.ty.name else 1000)
def sizG (m:Mod):List Sct→List Int→List Int
  | [],acc=>acc
  | s::r,acc=>sizG m r (acc++[sumG m acc s.fs 0])
def Small (l:List Int):Prop:=∀ z∈l,0≤z∧z≤1000
theorem plainF_bd (k:Int):0≤plainF k∧plainF k≤4:=by unfold plainF;(repeat' split)<;>omega
theorem at_bd {l:List Int} (h:Small l) (j:Int):0≤at' l j∧at' l j≤1000:=by
  unfold at'
  rw [List.getD]
  cases hj:l[j.toNat]? with
  | none=>simp
  | some z=>exact h z (List.mem_of_getElem? hj)
theorem compG_bd {m:Mod} {acc:List Int} (h:Small acc) (k:Int) (nm:Str):0≤compG m acc k nm∧compG m acc k nm≤1000:=by
  have h1:=plainF_bd k
  have h2:=at_bd h (stF m nm)
  unfold compG
  (repeat' split)<;>omega
theorem sumG_bd {m:Mod} {acc:List Int} (h:Small acc):∀ (l:List Fld) (n:Int),0≤n→n≤1000→0≤sumG m acc l n∧sumG m acc l n≤1000
  | [],n,h0,h1=>⟨h0,h1⟩
  | f::r,n,h0,h1=>by
    have:=compG_bd (m:=m) h f.ty.kind f.ty.name
    unfold sumG
    exact sumG_bd h r _ (by split<;>omega) (by split<;>omega)
theorem sizG_small {m:Mod}:∀ (l:List Sct) (acc:List Int),Small acc→Small (sizG m l acc)
  | [],acc,h=>h
  | s::r,acc,h=>by
    have:=sumG_bd (m:=m) h s.fs 0 (by omega) (by omega)
    refine sizG_small r _ fun z hz=>?_
    rcases List.mem_append.1 hz with hz|hz
    · exact h z hz
    · simp at hz;omega
theorem sizG_len {m:Mod}:∀ (l:List Sct) (acc:List Int),(sizG m l acc).length=acc.length+l.length
  | [],acc=>by simp [sizG]
  | s::r,acc=>by rw [sizG,sizG_len r];simp;omega
def sizF (m:Mod):List Int:=sizG m m.ss []
theorem sizF_small (m:Mod):Small (sizF m):=sizG_small _ _ (fun z hz=>by simp at hz)
theorem sizF_len (m:Mod):(sizF m).length=m.ss.length:=by simp [sizF,sizG_len]
def compF (m:Mod) (k:Int) (nm:Str):Int:=compG m (sizF m) k nm
def totF (m:Mod) (l:List Fld):Int:=sumG m (sizF m) l 0
theorem stF_bd (m:Mod) (nm:Str) : -1≤stF m nm∧stF m nm<m.ss.length:=⟨(Xq _ _).1,(Xq _ _).2.1⟩
end
section

end
section
theorem sizes_in (m:Mod) (hm:m.Ok) (i:Nat) (hi:i<m.ss.length) (fl:Fl) (fs:List Fld) (hf:fs.length≤1048576) (acc zs:List Int) (hal:acc.length=i) (hzl:acc.length+zs.length+1=m.ss.length) (hs:Small acc) (fin:Int) {ks:List KI} {Q:PEx→Fr→Prop} {o1:Option Ob}
    {u15:PV} (hn:∀ t ob,look t 1=.ip m.c→look t 3=.sl (0,0) 1 0 m.ss.length→look t 15=u15→look t 16=.int .i64 m.ss.length→look t 17=.int .i64 i→kQ E ks Q .norm { lvl:=0,tmps:=mk 65 t,heap:=[[some (.mem (ints (acc++fin::zs)) 1 true 1),o1,ob]],defers:=[] }) :
    ∀ (rest pre:List Fld) (n:Int) (ob:Option Ob) (t:List (Nat × PV)),fs=pre++rest→sumG m acc rest n=fin→0≤n→n≤1000 →
      look t 1=.ip m.c→look t 3=.sl (0,0) 1 0 m.ss.length→look t 4=.int .i64 i→look t 15=u15→look t 16=.int .i64 m.ss.length→look t 17=.int .i64 i →
      look t 23=.vs fl (flds fs)→look t 24=.int .i64 fs.length→look t 25=.int .i64 pre.length →
      kQ E (.code p47l1::.blk 2::ks) Q .norm { lvl:=0,tmps:=mk 65 t,heap:=[[some (.mem (ints (acc++n::zs)) 1 true 1),o1,ob]],defers:=[] }:=by
  intro rest
  have hss:=hm.ss
  have h1':=m.hm
  induction rest with
  | nil =>
    intro pre n ob t hl hi h0n h1n h1 h3 h4 h15 h16 h17 h23 h24 h25
    have e:fs.length=pre.length:=by rw [hl];simp
    refine loopK' (c:=p47l1) rfl ?_
    repeat' first|(with_reducible first|refine cS ?_ ?_|refine oS ?_ ?_|refine dS ?_ ?_)<;>intro _|((with_reducible refine kk ?_ ?_);·rfl)|simp -implicitDefEqProofs(disch:=first|omega|assumption)only[push_cast,simprocAttr,Zd,Zc,Ze,Zb,h1,h3,h4,h15,h16,h17,h23,h24,h25,e]|(with_reducible first|refine cB ?_ ?_|refine oB ?_ ?_|refine dB ?_ ?_)<;>intro _
    simp only [sumG] at hi
    subst hi
    exact hn _ _ (by simp [look,Za,h1]) (by simp [look,Za,h3]) (by simp [look,Za,h15]) (by simp [look,Za,h16]) (by simp [look,Za,h17])
  | cons s r ih =>
    intro pre n ob t hl hfin h0n h1n h1 h3 h4 h15 h16 h17 h23 h24 h25
    have e:fs.length=pre.length+r.length+1:=by rw [hl];simp;omega
    have hg:(flds fs)[pre.length]?=some (.agg [.str s.name,.int .i64 s.ty.kind,.str s.ty.name]):=by rw [hl];exact Yd _ _ _ _
    have hc:=compG_bd (m:=m) hs s.ty.kind s.ty.name
    have hst:=stF_bd m s.ty.name
    have hpl:=plainF_bd s.ty.kind
    have hcell:(acc++n::zs).length=m.ss.length:=by simp;omega
    have hmid:at' (acc++n::zs) i=n:=at_mid (by omega)
    have hset:∀ k:Int,(ints (acc++n::zs)).set i (.int .i64 k)=ints (acc++k::zs):=fun k=>set_mid hal.symm
    have hcz:s.ty.kind≠8→compG m acc s.ty.kind s.ty.name=plainF s.ty.kind:=fun h=>by simp [compG,h]
    have hge:(ints (acc++n::zs))[i]?=some (.int .i64 n):=by
      have:=ints_get (zs:=acc++n::zs) (j:=i) (by omega) (by simp;omega)
      rw [hmid] at this
      simpa using this
    have hab:=at_bd hs (stF m s.ty.name)
    have hc8:s.ty.kind=8→0≤stF m s.ty.name→stF m s.ty.name<i→compG m acc s.ty.kind s.ty.name=at' acc (stF m s.ty.name):=fun h h0 h1=>by unfold compG;rw [if_pos h,if_neg (by omega)]
    have hc0:s.ty.kind=8→(stF m s.ty.name<0∨i≤stF m s.ty.name)→compG m acc s.ty.kind s.ty.name=0:=fun h h0=>by unfold compG;rw [if_pos h,if_pos (by omega)]
    refine loopK' (c:=p47l1) rfl ?_
    repeat' first|(with_reducible first|refine cS ?_ ?_|refine oS ?_ ?_|refine dS ?_ ?_)<;>intro _|((with_reducible refine kk ?_ ?_);·rfl)|simp -implicitDefEqProofs(disch:=first|omega|assumption)only[push_cast,simprocAttr,Zd,Zc,Ze,Zb,at_low,h1,h3,h4,h15,h16,h17,h23,h24,h25,hg,hge,plain_ok,Yr,hm,ints_len,ints_get,hcell,hset,h1']|(with_reducible first|refine cB ?_ ?_|refine oB ?_ ?_|refine dB ?_ ?_)<;>intro _
    all_goals
      refine ih (pre++[s]) _ _ _ (by simp [hl]) ?_ ?_ ?_ (by simp [look,Za,h1]) (by simp [look,Za,h3]) (by simp [look,Za,h4]) (by simp [look,Za,h15]) (by simp [look,Za,h16]) (by simp [look,Za,h17]) (by simp [look,Za,h23]) (by simp [look,Za,h24]) (by simp [look,Za])
    all_goals first
      | (split<;>omega)
      | (rename_i hk;rw [← hfin,sumG,hcz hk];done)
      | (rename_i hk h0 h1;rw [← hfin,sumG,hc8 (by omega) h0 h1];done)
      | (rename_i hk h0;rw [← hfin,sumG,hc0 (by omega) (by omega)];done)
      | (rename_i hk h0 h1;rw [← hfin,sumG,hc0 (by omega) (by omega)];done)
theorem sizes_out (m:Mod) (hm:m.Ok) {ks:List KI} {Q:PEx→Fr→Prop}
    (hn:∀ t o1 o2,look t 3=.sl (0,0) 1 0 m.ss.length→kQ E ks Q .norm { lvl:=0,tmps:=mk 65 t,heap:=[[some (.mem (ints (sizF m)) 1 true 1),o1,o2]],defers:=[] }) :
    ∀ (rest pre:List Sct) (acc:List Int) (o1 o2:Option Ob) (t:List (Nat × PV)),m.ss=pre++rest→sizG m rest acc=sizF m→acc.length=pre.length→Small acc →
      look t 1=.ip m.c→look t 3=.sl (0,0) 1 0 m.ss.length→look t 15=.vs m.sf (scts m.ss)→look t 16=.int .i64 m.ss.length→look t 17=.int .i64 pre.length →
      kQ E (.code p47l0::.blk 0::ks) Q .norm { lvl:=0,tmps:=mk 65 t,heap:=[[some (.mem (ints (acc++List.replicate rest.length 0)) 1 true 1),o1,o2]],defers:=[] }:=by
  intro rest
  have hss:=hm.ss
  induction rest with
  | nil =>
    intro pre acc o1 o2 t hl hi hal hsm h1 h3 h15 h16 h17
    have e:m.ss.length=pre.length:=by rw [hl];simp
    refine loopK' (c:=p47l0) rfl ?_
    repeat' first|(with_reducible first|refine cS ?_ ?_|refine oS ?_ ?_|refine dS ?_ ?_)<;>intro _|((with_reducible refine kk ?_ ?_);·rfl)|simp -implicitDefEqProofs(disch:=first|omega|assumption)only[push_cast,simprocAttr,Zd,Zc,Ze,Zb,h1,h3,h15,h16,h17,e]|(with_reducible first|refine cB ?_ ?_|refine oB ?_ ?_|refine dB ?_ ?_)<;>intro _
    simp only [sizG] at hi
    subst hi
    have:=hn (keepL [1,3,15,16,17] ((18,.bool false)::keepL [1,3,15,16,17] t)) o1 o2 (by simp [look,Za,h3])
    try simp only [List.length_nil,List.replicate_zero,List.append_nil]
    exact hn _ _ _ (by simp [look,Za,h3])
  | cons s r ih =>
    intro pre acc o1 o2 t hl hi hal hsm h1 h3 h15 h16 h17
    have e:m.ss.length=pre.length+r.length+1:=by rw [hl];simp;omega
    have hg:(scts m.ss)[pre.length]?=some (.agg [.str s.name,.vs s.fl (flds s.fs)]):=by rw [hl];exact Yd _ _ _ _
    have hf:s.fs.length≤1048576:=hm.sf s (by rw [hl];simp)
    refine loopK' (c:=p47l0) rfl ?_
    repeat' first|(with_reducible first|refine cS ?_ ?_|refine oS ?_ ?_|refine dS ?_ ?_)<;>intro _|((with_reducible refine kk ?_ ?_);·rfl)|simp -implicitDefEqProofs(disch:=first|omega|assumption)only[push_cast,simprocAttr,Zd,Zc,Ze,Zb,h1,h3,h15,h16,h17,hg]|(with_reducible first|refine cB ?_ ?_|refine oB ?_ ?_|refine dB ?_ ?_)<;>intro _
    rw [show acc++List.replicate (r.length+1) (0:Int)=acc++0::List.replicate r.length 0 from by rw [List.replicate_succ]]
    refine sizes_in m hm pre.length (by omega) s.fl s.fs hf acc (List.replicate r.length 0) hal (by simp;omega) hsm (sumG m acc s.fs 0) (u15:=.vs m.sf (scts m.ss)) ?_ s.fs [] 0 _ _ rfl rfl (by omega) (by omega) (by simp [look,Za,h1]) (by simp [look,Za,h3]) (by simp [look,Za]) (by simp [look,Za,h15]) (by simp [look,Za,h16]) (by simp [look,Za,h17]) (by simp [look,Za]) (by simp [look,Za]) (by simp [look,Za])
    intro t' ob h1' h3' h15' h16' h17'
    repeat' first|(with_reducible first|refine cS ?_ ?_|refine oS ?_ ?_|refine dS ?_ ?_)<;>intro _|((with_reducible refine kk ?_ ?_);·rfl)|simp -implicitDefEqProofs(disch:=first|omega|assumption)only[push_cast,simprocAttr,Zd,Zc,Ze,Zb,h1',h3',h15',h16',h17']|(with_reducible first|refine cB ?_ ?_|refine oB ?_ ?_|refine dB ?_ ?_)<;>intro _
    rw [show acc++sumG m acc s.fs 0::List.replicate r.length 0=(acc++[sumG m acc s.fs 0])++List.replicate r.length 0 from by simp]
    refine ih (pre++[s]) (acc++[sumG m acc s.fs 0]) _ _ _ (by simp [hl]) (by rw [← hi];rfl) (by simp [hal]) ?_ (by simp [look,Za,h1']) (by simp [look,Za,h3']) (by simp [look,Za,h15']) (by simp [look,Za,h16']) (by simp [look,Za])
    intro z hz
    have:=sumG_bd (m:=m) hsm s.fs 0 (by omega) (by omega)
    rcases List.mem_append.1 hz with hz|hz
    · exact hsm z hz
    · simp at hz;omega
theorem sizes_ok (m:Mod) (hm:m.Ok) (h:Heap):doCall E (callR E) 47 [.agg m.c] h=some (.vs .any (ints (sizF m)),h):=by
  have h1:=m.hm
  have hss:=hm.ss
  refine Zg (pf:=p47) rfl rfl rfl rfl (by simp [PV.lowL,PV.low,Zj,Zi,Zk,Zl,h1,ints_low]) (by simp [PV.low,PV.lowL,Zj,Zi,Zk,Zl,h1,ints_low]) ?_ h
  show kQ E _ (endQ [⟨2,none⟩] _) .norm { lvl:=0,tmps:=mk 65 [(0,.agg m.c)],heap:=[[none,none,none]],defers:=[] }
  repeat' first|(with_reducible first|refine cS ?_ ?_|refine oS ?_ ?_|refine dS ?_ ?_)<;>intro _|((with_reducible refine kk ?_ ?_);·rfl)|simp -implicitDefEqProofs(disch:=first|omega|assumption)only[push_cast,simprocAttr,Zd,Zc,Ze,Zb,h1,ints_low,repl_ints]|(with_reducible first|refine cB ?_ ?_|refine oB ?_ ?_|refine dB ?_ ?_)<;>intro _
  refine sizes_out m hm ?_ m.ss [] [] _ _ _ rfl rfl rfl (fun z hz=>by simp at hz) (by simp [look,Za]) (by simp [look,Za]) (by simp [look,Za]) (by simp [look,Za]) (by simp [look,Za])
  intro t o1 o2 h3
  repeat' first|(with_reducible first|refine cS ?_ ?_|refine oS ?_ ?_|refine dS ?_ ?_)<;>intro _|((with_reducible refine kk ?_ ?_);·rfl)|simp -implicitDefEqProofs(disch:=first|omega|assumption)only[push_cast,simprocAttr,Zd,Zc,Ze,Zb,h3,ints_len,sizF_len]|(with_reducible first|refine cB ?_ ?_|refine oB ?_ ?_|refine dB ?_ ?_)<;>intro _
  rw [ints_take' (sizF_len m).symm]
end
section
theorem Xh (m:Mod) (hm:m.Ok) (k:Int) (nm:Str) (h:Heap):doCall E (callR E) 30 [.agg m.c,.agg [.int .i64 k,.str nm]] h=some (.int .i64 (compF m k nm),h):=by
  have h1:=m.hm
  have h2:=stF_bd m nm
  have h3:=sizF_len m
  have h4:=hm.ss
  refine Zg (pf:=p30) rfl rfl rfl rfl (by simp [PV.lowL,PV.low,Zj,Zi,Zk,Zl,h1]) (by simp [PV.low,PV.lowL,Zj,Zi,Zk,Zl,h1]) ?_ h
  show kQ E _ (endQ [⟨4,none⟩] _) .norm { lvl:=0,tmps:=mk 22 [(0,.agg m.c),(1,.agg [.int .i64 k,.str nm])],heap:=[[]],defers:=[] }
  repeat' first|(with_reducible first|refine cS ?_ ?_|refine oS ?_ ?_|refine dS ?_ ?_)<;>intro _|((with_reducible refine kk ?_ ?_);·rfl)|simp -implicitDefEqProofs(disch:=first|omega|assumption)only[push_cast,simprocAttr,Zd,Zc,Ze,Zb,h1,ints_low,plain_ok,Yr,sizes_ok,ints_len,ints_get,hm]|(with_reducible first|refine cB ?_ ?_|refine oB ?_ ?_|refine dB ?_ ?_)<;>intro _
  all_goals (unfold compF compG;congr 1;(repeat' split)<;>first|omega|rfl)
theorem Yt (m:Mod) (k:Int) (nm:Str):0≤compF m k nm∧compF m k nm≤1000:=compG_bd (sizF_small m) k nm
theorem total_loop (m:Mod) (hm:m.Ok) {fl:Fl} (fs:List Fld) (hf:fs.length≤1048576) (fin:Int) {ks:List KI} {Q:PEx→Fr→Prop}
    (hn:∀ t ob,look t 5=.int .i64 fin→kQ E ks Q .norm { lvl:=0,tmps:=mk 23 t,heap:=[[ob]],defers:=[] }) :
    ∀ (rest pre:List Fld) (n:Int) (ob:Option Ob) (t:List (Nat × PV)),fs=pre++rest→sumG m (sizF m) rest n=fin→0≤n→n≤1000 →
      look t 2=.ip m.c→look t 5=.int .i64 n→look t 8=.vs fl (flds fs)→look t 9=.int .i64 fs.length→look t 10=.int .i64 pre.length →
      kQ E (.code p15l0::.blk 0::ks) Q .norm { lvl:=0,tmps:=mk 23 t,heap:=[[ob]],defers:=[] }:=by
  intro rest
  have h1':=m.hm
  induction rest with
  | nil =>
    intro pre n ob t hl hi h0n h1n h2 h5 h8 h9 h10
    have e:fs.length=pre.length:=by rw [hl];simp
    refine loopK' (c:=p15l0) rfl ?_
    repeat' first|(with_reducible first|refine cS ?_ ?_|refine oS ?_ ?_|refine dS ?_ ?_)<;>intro _|((with_reducible refine kk ?_ ?_);·rfl)|simp -implicitDefEqProofs(disch:=first|omega|assumption)only[push_cast,simprocAttr,Zd,Zc,Ze,Zb,h2,h5,h8,h9,h10,e]|(with_reducible first|refine cB ?_ ?_|refine oB ?_ ?_|refine dB ?_ ?_)<;>intro _
    simp only [sumG] at hi
    subst hi
    exact hn _ _ (by simp [look,Za,h5])
  | cons s r ih =>
    intro pre n ob t hl hi h0n h1n h2 h5 h8 h9 h10
    have e:fs.length=pre.length+r.length+1:=by rw [hl];simp;omega
    have hg:(flds fs)[pre.length]?=some (.agg [.str s.name,.int .i64 s.ty.kind,.str s.ty.name]):=by rw [hl];exact Yd _ _ _ _
    have hc:=Yt m s.ty.kind s.ty.name
    refine loopK' (c:=p15l0) rfl ?_
    repeat' first|(with_reducible first|refine cS ?_ ?_|refine oS ?_ ?_|refine dS ?_ ?_)<;>intro _|((with_reducible refine kk ?_ ?_);·rfl)|simp -implicitDefEqProofs(disch:=first|omega|assumption)only[push_cast,simprocAttr,Zd,Zc,Ze,Zb,h2,h5,h8,h9,h10,hg,Xh,hm,h1']|(with_reducible first|refine cB ?_ ?_|refine oB ?_ ?_|refine dB ?_ ?_)<;>intro _
    refine ih (pre++[s]) (if n+compF m s.ty.kind s.ty.name<1000 then n+compF m s.ty.kind s.ty.name else 1000) _ _ (by simp [hl]) (by rw [← hi];rfl) (by split<;>omega) (by split<;>omega) (by simp [look,Za,h2]) (by simp [look,Za]) (by simp [look,Za,h8]) (by simp [look,Za,h9]) (by simp [look,Za])
theorem total_ok (m:Mod) (hm:m.Ok) (fl:Fl) (fs:List Fld) (hf:fs.length≤1048576) (h:Heap):doCall E (callR E) 15 [.agg m.c,.vs fl (flds fs)] h=some (.int .i64 (totF m fs),h):=by
  have h1:=m.hm
  refine Zg (pf:=p15) rfl rfl rfl rfl (by simp [PV.lowL,PV.low,Zj,Zi,Zk,Zl,h1]) (by simp [PV.low,PV.lowL,Zj,Zi,Zk,Zl,h1]) ?_ h
  show kQ E _ (endQ [⟨4,none⟩] _) .norm { lvl:=0,tmps:=mk 23 [(0,.agg m.c),(1,.vs fl (flds fs))],heap:=[[none]],defers:=[] }
  repeat' first|(with_reducible first|refine cS ?_ ?_|refine oS ?_ ?_|refine dS ?_ ?_)<;>intro _|((with_reducible refine kk ?_ ?_);·rfl)|simp -implicitDefEqProofs(disch:=first|omega|assumption)only[push_cast,simprocAttr,Zd,Zc,Ze,Zb,h1]|(with_reducible first|refine cB ?_ ?_|refine oB ?_ ?_|refine dB ?_ ?_)<;>intro _
  refine total_loop m hm (fl:=fl) fs hf (totF m fs) ?_ fs [] 0 _ _ rfl rfl (by omega) (by omega) (by simp [look,Za]) (by simp [look,Za]) (by simp [look,Za]) (by simp [look,Za]) (by simp [look,Za])
  intro t ob h5
  repeat' first|(with_reducible first|refine cS ?_ ?_|refine oS ?_ ?_|refine dS ?_ ?_)<;>intro _|((with_reducible refine kk ?_ ?_);·rfl)|simp -implicitDefEqProofs(disch:=first|omega|assumption)only[push_cast,simprocAttr,Zd,Zc,Ze,Zb,h5]|(with_reducible first|refine cB ?_ ?_|refine oB ?_ ?_|refine dB ?_ ?_)<;>intro _
def tyAt (l:List Fld) (i:Int):Ty:=((l[i.toNat]?).map Fld.ty).getD ⟨0,[]⟩
theorem flds_get {l:List Fld} {j:Int} (h0:0≤j) (h1:j<l.length):∃ f:Fld,(flds l)[j.toNat]?=some (.agg [.str f.name,.int .i64 f.ty.kind,.str f.ty.name])∧tyAt l j=f.ty:=by
  have:j.toNat<l.length:=by omega
  exact ⟨l[j.toNat],by simp [flds,List.getElem?_eq_getElem this],by simp [tyAt,List.getElem?_eq_getElem this]⟩
theorem fdF_bd (l:List Fld) (nm:Str) : -1≤fdF l nm∧fdF l nm<l.length:=⟨(Xq _ _).1,(Xq _ _).2.1⟩
theorem flds_take {l:List Fld} {n:Nat}:(flds l).take n=flds (l.take n):=by simp [flds,List.map_take]
theorem flds_head {l:List Fld}:headSz 3 (flds l)=true:=by
  cases l with
  | nil=>rfl
  | cons f l=>rfl
end
section
theorem Xu {a b:Int} {s t:Str}:Zd (.parts [(0,1,.ei),(1,1,.es)]) (.agg [.int .i64 a,.str s]) (.agg [.int .i64 b,.str t])=some (decide ((⟨a,s⟩:Ty)=⟨b,t⟩)):=by
  have e1:(a==b)=decide (a=b):=int_beq
  have e2:(s==t)=decide (s=t):=Yu
  by_cases h1:a=b
  · by_cases h2:s=t
    · simp [Zd,Zc,Ze,h1,h2]
    · simp [Zd,Zc,Ze,e2,h1,h2]
  · simp [Zd,Zc,Ze,e1,h1]
theorem Y8 {t:Ty}:(⟨t.kind,t.name⟩:Ty)=t:=rfl
abbrev tz:Ty:=⟨0,[]⟩
abbrev encR (r:Ty × Int):PV:=.tuple [.agg [.int .i64 r.1.kind,.str r.1.name],.int .i64 r.2]
def isNm (k:Int):Bool:=decide ((1≤k∧k≤3)∨(5≤k∧k≤7))
def typedF (b:Bool) (t:Ty):Ty × Int:=if b then (t,0) else (tz,12)
theorem typed_ok (b:Bool) (t:Ty) (h:Heap):doCall E (callR E) 164 [.bool b,.agg [.int .i64 t.kind,.str t.name]] h=some (encR (typedF b t),h):=by
  refine Zg (pf:=p164) rfl rfl rfl rfl (by simp [PV.lowL,PV.low]) (by simp [PV.low,PV.lowL]) ?_ h
  show kQ E _ (endQ [⟨4,some (some 2)⟩,⟨5,none⟩] _) .norm { lvl:=0,tmps:=mk 10 [(0,.bool b),(1,.agg [.int .i64 t.kind,.str t.name])],heap:=[[none]],defers:=[] }
  cases b
  all_goals
    repeat' first|(with_reducible first|refine cS ?_ ?_|refine oS ?_ ?_|refine dS ?_ ?_)<;>intro _|((with_reducible refine kk ?_ ?_);·rfl)|simp -implicitDefEqProofs(disch:=first|omega|assumption)only[push_cast,simprocAttr,Zd,Zc,Ze,Zb]|(with_reducible first|refine cB ?_ ?_|refine oB ?_ ?_|refine dB ?_ ?_)<;>intro _
  all_goals rfl
theorem Xc (b:Bool) (k:Int) (n:Str) (h:Heap):doCall E (callR E) 164 [.bool b,.agg [.int .i64 k,.str n]] h=some (encR (typedF b ⟨k,n⟩),h):=typed_ok b ⟨k,n⟩ h
theorem num_ok (k:Int) (n:Str) (h:Heap):doCall E (callR E) 165 [.agg [.int .i64 k,.str n]] h=some (.bool (isNm k),h):=by
  refine Zg (pf:=p165) rfl rfl rfl rfl (by simp [PV.lowL,PV.low]) (by simp [PV.low,PV.lowL]) ?_ h
  show kQ E _ (endQ [⟨2,none⟩] _) .norm { lvl:=0,tmps:=mk 14 [(0,.agg [.int .i64 k,.str n])],heap:=[[]],defers:=[] }
  repeat' first|(with_reducible first|refine cS ?_ ?_|refine oS ?_ ?_|refine dS ?_ ?_)<;>intro _|((with_reducible refine kk ?_ ?_);·rfl)|simp -implicitDefEqProofs(disch:=first|omega|assumption)only[push_cast,simprocAttr,Zd,Zc,Ze,Zb,sc_ok,Y7,isSc,isVc]|(with_reducible first|refine cB ?_ ?_|refine oB ?_ ?_|refine dB ?_ ?_)<;>intro _
  all_goals simp only [isNm,PV.bool.injEq,Bool.false_eq,Bool.true_eq,decide_eq_true_eq,decide_eq_false_iff_not,decide_eq_decide];omega
def litF (k v l:Int):Ty × Int:=if v<0∨v>l then (tz,6) else (⟨k,[]⟩,0)
theorem lit_ok (k v l:Int) (h:Heap):doCall E (callR E) 127 [.int .i64 k,.int .i64 v,.int .i64 l] h=some (encR (litF k v l),h):=by
  refine Zg (pf:=p127) rfl rfl rfl rfl (by simp [PV.lowL,PV.low]) (by simp [PV.low,PV.lowL]) ?_ h
  show kQ E _ (endQ [⟨6,some (some 2)⟩,⟨7,none⟩] _) .norm { lvl:=0,tmps:=mk 18 [(0,.int .i64 k),(1,.int .i64 v),(2,.int .i64 l)],heap:=[[none]],defers:=[] }
  repeat' first|(with_reducible first|refine cS ?_ ?_|refine oS ?_ ?_|refine dS ?_ ?_)<;>intro _|((with_reducible refine kk ?_ ?_);·rfl)|simp -implicitDefEqProofs(disch:=first|omega|assumption)only[push_cast,simprocAttr,Zd,Zc,Ze,Zb,Ye]|(with_reducible first|refine cB ?_ ?_|refine oB ?_ ?_|refine dB ?_ ?_)<;>intro _
  all_goals (unfold litF;(repeat' split)<;>first|rfl|omega)
def unaryF (op:Int) (t:Ty):Ty × Int:=if op=17 then typedF (isNm t.kind) t else if op=18 then typedF (decide (t.kind=3∨t.kind=4)) t else (tz,10)
theorem unary_ok (op:Int) (t:Ty) (h:Heap):doCall E (callR E) 129 [.int .i64 op,.agg [.int .i64 t.kind,.str t.name]] h=some (encR (unaryF op t),h):=by
  refine Zg (pf:=p129) rfl rfl rfl rfl (by simp [PV.lowL,PV.low]) (by simp [PV.low,PV.lowL]) ?_ h
  show kQ E _ (endQ [⟨4,some (some 2)⟩,⟨5,none⟩] _) .norm { lvl:=0,tmps:=mk 30 [(0,.int .i64 op),(1,.agg [.int .i64 t.kind,.str t.name])],heap:=[[none]],defers:=[] }
  have pu165:pureB E 165=true:=rfl
  repeat' first|(with_reducible first|refine cS ?_ ?_|refine oS ?_ ?_|refine dS ?_ ?_)<;>intro _|((with_reducible refine kk ?_ ?_);·rfl)|simp -implicitDefEqProofs(disch:=first|omega|assumption)only[push_cast,simprocAttr,Zd,Zc,Ze,Zb,num_ok,typed_ok]|(with_reducible first|refine cB ?_ ?_|refine oB ?_ ?_|refine dB ?_ ?_)<;>intro _
  all_goals simp_all [unaryF,typedF]
def binaryF (op:Int) (t u:Ty):Ty × Int :=
  if op=3∨op=4 then (if isVc t.kind=true∧u=⟨1,[]⟩ then (t,0) else typedF (decide (t=u)&&isNm t.kind) t)
  else if op=1∨op=2 then typedF (decide (t=u)&&isNm t.kind) t
  else if op=5∨op=9∨op=10 then typedF (decide (t=u)&&decide (t.kind=3)) t
  else if op=6∨op=7∨op=8 then typedF (decide (t=u)&&decide (t.kind=3∨t.kind=4)) t
  else if op=11∨op=12∨op=13∨op=14 then typedF (decide (t=u)&&isNm t.kind&&!isVc t.kind) ⟨4,[]⟩
  else if op=15∨op=16 then typedF (decide (t=u)&&(isSc t.kind||isVc t.kind)) ⟨4,[]⟩
  else (tz,10)
set_option maxHeartbeats 2000000 in
theorem binary_ok (op:Int) (t u:Ty) (h:Heap):doCall E (callR E) 130 [.int .i64 op,.agg [.int .i64 t.kind,.str t.name],.agg [.int .i64 u.kind,.str u.name]] h=some (encR (binaryF op t u),h):=by
  refine Zg (pf:=p130) rfl rfl rfl rfl (by simp [PV.lowL,PV.low]) (by simp [PV.low,PV.lowL]) ?_ h
  show kQ E _ (endQ [⟨6,some (some 2)⟩,⟨7,none⟩] _) .norm { lvl:=0,tmps:=mk 114 [(0,.int .i64 op),(1,.agg [.int .i64 t.kind,.str t.name]),(2,.agg [.int .i64 u.kind,.str u.name])],heap:=[[none]],defers:=[] }
  have pu123:pureB E 123=true:=rfl
  have pu165:pureB E 165=true:=rfl
  repeat' first|(with_reducible first|refine cS ?_ ?_|refine oS ?_ ?_|refine dS ?_ ?_)<;>intro _|((with_reducible refine kk ?_ ?_);·rfl)|simp -implicitDefEqProofs(disch:=first|omega|assumption)only[push_cast,simprocAttr,Zb,Xu,Y8,num_ok,Xc,Ye,sc_ok,Y7,isNm,isSc,isVc]|(with_reducible first|refine cB ?_ ?_|refine oB ?_ ?_|refine dB ?_ ?_)<;>intro _
  all_goals
    subst_vars
    simp [binaryF,typedF,isNm,isSc,isVc, *]
  all_goals trace_state
end
section
def fldsAt (m:Mod) (i:Int):List Fld:=((m.ss[i.toNat]?).map Sct.fs).getD []
theorem scts_get {m:Mod} {j:Int} (h0:0≤j) (h1:j<m.ss.length):∃ s:Sct,s∈m.ss∧(scts m.ss)[j.toNat]?=some (.agg [.str s.name,.vs s.fl (flds s.fs)])∧fldsAt m j=s.fs:=by
  have:j.toNat<m.ss.length:=by omega
  exact ⟨m.ss[j.toNat],List.getElem_mem _,by simp [scts,List.getElem?_eq_getElem this],by simp [fldsAt,List.getElem?_eq_getElem this]⟩
def letters (k:Int):List Str:=if k=5 then [[120],[121]] else if k=6 then [[120],[121],[122]] else [[120],[121],[122],[119]]
def memF (m:Mod) (t:Ty) (nm:Str):Ty × Int :=
  if isVc t.kind then (if nm∈letters t.kind then (⟨1,[]⟩,0) else (tz,13))
  else if t.kind≠8 then (tz,12)
  else if stF m t.name<0 then (tz,13)
  else if fdF (fldsAt m (stF m t.name)) nm<0 then (tz,13)
  else (tyAt (fldsAt m (stF m t.name)) (fdF (fldsAt m (stF m t.name)) nm),0)
theorem mem_ok (m:Mod) (hm:m.Ok) (t:Ty) (nm:Str) (h:Heap):doCall E (callR E) 131 [.agg m.c,.agg [.int .i64 t.kind,.str t.name],.str nm] h=some (encR (memF m t nm),h):=by
  have h1:=m.hm
  refine Zg (pf:=p131) rfl rfl rfl rfl (by simp [PV.lowL,PV.low,Zj,Zi,Zk,Zl,h1]) (by simp [PV.low,PV.lowL,Zj,Zi,Zk,Zl,h1]) ?_ h
  show kQ E _ (endQ [⟨6,some (some 2)⟩,⟨7,none⟩] _) .norm { lvl:=0,tmps:=mk 65 [(0,.agg m.c),(1,.agg [.int .i64 t.kind,.str t.name]),(2,.str nm)],heap:=[[none]],defers:=[] }
  by_cases hv:5≤t.kind∧t.kind≤7
  · have p5:plainF 5=2:=rfl
    have p6:plainF 6=3:=rfl
    have p7:plainF 7=4:=rfl
    have hk:t.kind=5∨t.kind=6∨t.kind=7:=by omega
    have e0:∀ a:Str,(a=nm)=(nm=a):=fun a=>propext eq_comm
    rcases hk with hk|hk|hk
    all_goals rw [hk]
    all_goals
      repeat' first|(with_reducible first|refine cS ?_ ?_|refine oS ?_ ?_|refine dS ?_ ?_)<;>intro _|((with_reducible refine kk ?_ ?_);·rfl)|simp -implicitDefEqProofs(disch:=first|omega|assumption)only[push_cast,simprocAttr,Zd,Zc,Ze,Zb,hk,h1,Y7,isVc,plain_ok,p5,p6,p7,boundsE,bound,Ye,binS,Yu,Option.isSome_none,Bool.false_eq_true]|(with_reducible first|refine cB ?_ ?_|refine oB ?_ ?_|refine dB ?_ ?_)<;>intro _|refine loopK' (c:=p131l0) rfl ?_
    all_goals simp_all [memF,isVc,letters]
  · have h2:=stF_bd m t.name
    by_cases h8:t.kind=8
    · by_cases hs:stF m t.name<0
      · repeat' first|(with_reducible first|refine cS ?_ ?_|refine oS ?_ ?_|refine dS ?_ ?_)<;>intro _|((with_reducible refine kk ?_ ?_);·rfl)|simp -implicitDefEqProofs(disch:=first|omega|assumption)only[push_cast,simprocAttr,Zd,Zc,Ze,Zb,h1,Y7,isVc,Yr,hm]|(with_reducible first|refine cB ?_ ?_|refine oB ?_ ?_|refine dB ?_ ?_)<;>intro _
        all_goals simp [memF,isVc, *]
      · obtain ⟨s,hmem,hg,hfs⟩:=scts_get (m:=m) (j:=stF m t.name) (by omega) (by omega)
        have hsl:=hm.sf s hmem
        have h3:=fdF_bd s.fs nm
        by_cases hf:fdF s.fs nm<0
        · repeat' first|(with_reducible first|refine cS ?_ ?_|refine oS ?_ ?_|refine dS ?_ ?_)<;>intro _|((with_reducible refine kk ?_ ?_);·rfl)|simp -implicitDefEqProofs(disch:=first|omega|assumption)only[push_cast,simprocAttr,Zd,Zc,Ze,Zb,h1,Y7,isVc,Yr,hm,hg,Xt,hsl]|(with_reducible first|refine cB ?_ ?_|refine oB ?_ ?_|refine dB ?_ ?_)<;>intro _
          all_goals simp [memF,isVc, *]
        · obtain ⟨f,hgf,hty⟩:=flds_get (l:=s.fs) (j:=fdF s.fs nm) (by omega) (by omega)
          repeat' first|(with_reducible first|refine cS ?_ ?_|refine oS ?_ ?_|refine dS ?_ ?_)<;>intro _|((with_reducible refine kk ?_ ?_);·rfl)|simp -implicitDefEqProofs(disch:=first|omega|assumption)only[push_cast,simprocAttr,Zd,Zc,Ze,Zb,h1,Y7,isVc,Yr,hm,hg,Xt,hsl,hgf]|(with_reducible first|refine cB ?_ ?_|refine oB ?_ ?_|refine dB ?_ ?_)<;>intro _
          all_goals simp [memF,isVc, *]
    · repeat' first|(with_reducible first|refine cS ?_ ?_|refine oS ?_ ?_|refine dS ?_ ?_)<;>intro _|((with_reducible refine kk ?_ ?_);·rfl)|simp -implicitDefEqProofs(disch:=first|omega|assumption)only[push_cast,simprocAttr,Zd,Zc,Ze,Zb,h1,Y7,isVc]|(with_reducible first|refine cB ?_ ?_|refine oB ?_ ?_|refine dB ?_ ?_)<;>intro _
      all_goals simp [memF,isVc, *]
end
section
abbrev Ty.v' (t:Ty):PV:=.agg [.int .i64 t.kind,.str t.name]
def tys (l:List Ty):List PV:=l.map Ty.v'
theorem Z8 {l:List Ty}:(tys l).length=l.length:=by simp [tys]
theorem Zr {l:List Ty}:PV.lowL 0 (tys l)=true:=low_map _ (fun _=>rfl) l
theorem tys_head {l:List Ty}:headSz 2 (tys l)=true:=by cases l<;>rfl
theorem sidx_loop {f:Fl} {l:List Str} {nm:Str} (hb:l.length≤1048576) {ks:List KI} {Q:PEx→Fr→Prop}
    (hr:∀ t,look t 4=.int .i64 (idxF (fun s=>decide (nm=s)) l)→kQ E ks Q .ret { lvl:=0,tmps:=mk 19 t,heap:=[[]],defers:=[] })
    (hn:∀ t,idxF (fun s=>decide (nm=s)) l = -1→kQ E ks Q .norm { lvl:=0,tmps:=mk 19 t,heap:=[[]],defers:=[] }) :
    ∀ (rest pre:List Str) (t:List (Nat × PV)),l=pre++rest→idxG (fun s=>decide (nm=s)) rest pre.length=idxF (fun s=>decide (nm=s)) l →
      look t 0=.vs f (strs l)→look t 1=.str nm→look t 7=.int .i64 l.length→look t 8=.int .i64 pre.length →
      kQ E (.code p158l0::.blk 0::ks) Q .norm { lvl:=0,tmps:=mk 19 t,heap:=[[]],defers:=[] }:=by
  intro rest
  induction rest with
  | nil =>
    intro pre t hl hi h0 h1 h7 h8
    have e:l.length=pre.length:=by rw [hl];simp
    refine loopK' (c:=p158l0) rfl ?_
    repeat' first|(with_reducible first|refine cS ?_ ?_|refine oS ?_ ?_|refine dS ?_ ?_)<;>intro _|((with_reducible refine kk ?_ ?_);·rfl)|simp -implicitDefEqProofs(disch:=first|omega|assumption)only[push_cast,simprocAttr,Zd,Zc,Ze,Zb,h0,h1,h7,h8,e]|(with_reducible first|refine cB ?_ ?_|refine oB ?_ ?_|refine dB ?_ ?_)<;>intro _
    exact hn _ hi.symm
  | cons s r ih =>
    intro pre t hl hi h0 h1 h7 h8
    have e:l.length=pre.length+r.length+1:=by rw [hl];simp;omega
    have hg:(strs l)[pre.length]?=some (.str s):=by rw [hl];exact Yd _ _ _ _
    refine loopK' (c:=p158l0) rfl ?_
    repeat' first|(with_reducible first|refine cS ?_ ?_|refine oS ?_ ?_|refine dS ?_ ?_)<;>intro _|((with_reducible refine kk ?_ ?_);·rfl)|simp -implicitDefEqProofs(disch:=first|omega|assumption)only[push_cast,simprocAttr,Zd,Zc,Ze,Zb,h0,h1,h7,h8,hg,binS,Yu]|(with_reducible first|refine cB ?_ ?_|refine oB ?_ ?_|refine dB ?_ ?_)<;>intro _
    · rename_i hp
      refine hr _ ?_
      simp only [look,if_pos,↓reduceIte,Nat.reduceEqDiff]
      rw [← hi]
      simp [idxG,hp]
    · rename_i hp
      refine ih (pre++[s]) _ (by simp [hl]) ?_ (by simp [look,Za,h0]) (by simp [look,Za,h1]) (by simp [look,Za,h7]) (by simp [look,Za])
      rw [← hi]
      simp [idxG,hp]
def sidxF (l:List Str) (nm:Str):Int:=idxF (fun s=>decide (nm=s)) l
theorem sidx_ok (f:Fl) (l:List Str) (nm:Str) (hb:l.length≤1048576) (h:Heap):doCall E (callR E) 158 [.vs f (strs l),.str nm] h=some (.int .i64 (sidxF l nm),h):=by
  refine Zg (pf:=p158) rfl rfl rfl rfl (by simp [PV.lowL,PV.low,Zj]) (by simp [PV.low,PV.lowL,Zj]) ?_ h
  show kQ E _ (endQ [⟨4,none⟩] _) .norm { lvl:=0,tmps:=mk 19 [(0,.vs f (strs l)),(1,.str nm)],heap:=[[]],defers:=[] }
  repeat' first|(with_reducible first|refine cS ?_ ?_|refine oS ?_ ?_|refine dS ?_ ?_)<;>intro _|((with_reducible refine kk ?_ ?_);·rfl)|simp -implicitDefEqProofs(disch:=first|omega|assumption)only[push_cast,simprocAttr,Zd,Zc,Ze,Zb]|(with_reducible first|refine cB ?_ ?_|refine oB ?_ ?_|refine dB ?_ ?_)<;>intro _
  refine sidx_loop (f:=f) (nm:=nm) hb ?_ ?_ l [] _ rfl rfl (by simp [look,Za]) (by simp [look,Za]) (by simp [look,Za]) (by simp [look,Za])
  all_goals
    intro t h4
    unfold sidxF
    repeat' first|(with_reducible first|refine cS ?_ ?_|refine oS ?_ ?_|refine dS ?_ ?_)<;>intro _|((with_reducible refine kk ?_ ?_);·rfl)|simp -implicitDefEqProofs(disch:=first|omega|assumption)only[push_cast,simprocAttr,Zd,Zc,Ze,Zb,h4]|(with_reducible first|refine cB ?_ ?_|refine oB ?_ ?_|refine dB ?_ ?_)<;>intro _
theorem shas_ok (f:Fl) (l:List Str) (nm:Str) (hb:l.length≤1048576) (h:Heap):doCall E (callR E) 117 [.vs f (strs l),.str nm] h=some (.bool (decide (sidxF l nm≥0)),h):=by
  refine Zg (pf:=p117) rfl rfl rfl rfl (by simp [PV.lowL,PV.low,Zj]) (by simp [PV.low,PV.lowL,Zj]) ?_ h
  show kQ E _ (endQ [⟨4,none⟩] _) .norm { lvl:=0,tmps:=mk 9 [(0,.vs f (strs l)),(1,.str nm)],heap:=[[]],defers:=[] }
  repeat' first|(with_reducible first|refine cS ?_ ?_|refine oS ?_ ?_|refine dS ?_ ?_)<;>intro _|((with_reducible refine kk ?_ ?_);·rfl)|simp -implicitDefEqProofs(disch:=first|omega|assumption)only[push_cast,simprocAttr,Zd,Zc,Ze,Zb,sidx_ok,hb]|(with_reducible first|refine cB ?_ ?_|refine oB ?_ ?_|refine dB ?_ ?_)<;>intro _
theorem glob0:E.glob 3=.ip [.vs .any (strs wordsL)]:=rfl
theorem glob1:E.glob 1=.ip [.vs .any (strs builtinsL)]:=rfl
theorem words_len:wordsL.length=7:=rfl
def wordF (nm:Str):Int:=sidxF wordsL nm+1
theorem wordF_bd (nm:Str):0≤wordF nm∧wordF nm≤7:=by
  have h:=Xq (fun s=>decide (nm=s)) wordsL
  rw [words_len] at h
  unfold wordF sidxF
  omega
theorem Xa (nm:Str) (h:Heap):doCall E (callR E) 133 [.str nm] h=some (.int .i64 (wordF nm),h):=by
  have hb:=wordF_bd nm
  have h1:wordsL.length≤1048576:=by decide
  unfold wordF at hb
  refine Zg (pf:=p133) rfl rfl rfl rfl (by simp [PV.lowL,PV.low]) (by simp [PV.low,PV.lowL]) ?_ h
  show kQ E _ (endQ [⟨2,none⟩] _) .norm { lvl:=0,tmps:=mk 7 [(0,.str nm)],heap:=[[]],defers:=[] }
  repeat' first|(with_reducible first|refine cS ?_ ?_|refine oS ?_ ?_|refine dS ?_ ?_)<;>intro _|((with_reducible refine kk ?_ ?_);·rfl)|simp -implicitDefEqProofs(disch:=first|omega|assumption)only[push_cast,simprocAttr,Zd,Zc,Ze,Zb,glob0,sidx_ok,h1]|(with_reducible first|refine cB ?_ ?_|refine oB ?_ ?_|refine dB ?_ ?_)<;>intro _
  rfl
def bltF (nm:Str):Bool:=decide (sidxF builtinsL nm≥0)
theorem blt_ok (nm:Str) (h:Heap):doCall E (callR E) 86 [.str nm] h=some (.bool (bltF nm),h):=by
  have h1:builtinsL.length≤1048576:=by decide
  refine Zg (pf:=p86) rfl rfl rfl rfl (by simp [PV.lowL,PV.low]) (by simp [PV.low,PV.lowL]) ?_ h
  show kQ E _ (endQ [⟨2,none⟩] _) .norm { lvl:=0,tmps:=mk 6 [(0,.str nm)],heap:=[[]],defers:=[] }
  repeat' first|(with_reducible first|refine cS ?_ ?_|refine oS ?_ ?_|refine dS ?_ ?_)<;>intro _|((with_reducible refine kk ?_ ?_);·rfl)|simp -implicitDefEqProofs(disch:=first|omega|assumption)only[push_cast,simprocAttr,Zd,Zc,Ze,Zb,glob1,shas_ok,h1,bltF]|(with_reducible first|refine cB ?_ ?_|refine oB ?_ ?_|refine dB ?_ ?_)<;>intro _
theorem khas3_ok (f:Fl) (a b c k:Int) (h:Heap):doCall E (callR E) 188 [.vs f [.int .i64 a,.int .i64 b,.int .i64 c],.int .i64 k] h=some (.bool (decide (k=a∨k=b∨k=c)),h):=by
  have hi:∀ h,doCall E (callR E) 195 [.vs f [.int .i64 a,.int .i64 b,.int .i64 c],.int .i64 k] h=some (.int .i64 (if k=a then 0 else if k=b then 1 else if k=c then 2 else -1),h):=by
    intro h
    refine Zg (pf:=p195) rfl rfl rfl rfl (by simp [PV.lowL,PV.low]) (by simp [PV.low,PV.lowL]) ?_ h
    show kQ E _ (endQ [⟨4,none⟩] _) .norm { lvl:=0,tmps:=mk 19 [(0,.vs f [.int .i64 a,.int .i64 b,.int .i64 c]),(1,.int .i64 k)],heap:=[[]],defers:=[] }
    repeat' first|(with_reducible first|refine cS ?_ ?_|refine oS ?_ ?_|refine dS ?_ ?_)<;>intro _|((with_reducible refine kk ?_ ?_);·rfl)|simp -implicitDefEqProofs(disch:=first|omega|assumption)only[push_cast,simprocAttr,Zd,Zc,Ze,Zb]|(with_reducible first|refine cB ?_ ?_|refine oB ?_ ?_|refine dB ?_ ?_)<;>intro _|refine loopK' (c:=p195l0) rfl ?_
    all_goals simp [*]
  refine Zg (pf:=p188) rfl rfl rfl rfl (by simp [PV.lowL,PV.low]) (by simp [PV.low,PV.lowL]) ?_ h
  show kQ E _ (endQ [⟨4,none⟩] _) .norm { lvl:=0,tmps:=mk 9 [(0,.vs f [.int .i64 a,.int .i64 b,.int .i64 c]),(1,.int .i64 k)],heap:=[[]],defers:=[] }
  repeat' first|(with_reducible first|refine cS ?_ ?_|refine oS ?_ ?_|refine dS ?_ ?_)<;>intro _|((with_reducible refine kk ?_ ?_);·rfl)|simp -implicitDefEqProofs(disch:=first|omega|assumption)only[push_cast,simprocAttr,Zd,Zc,Ze,Zb,hi]|(with_reducible first|refine cB ?_ ?_|refine oB ?_ ?_|refine dB ?_ ?_)<;>intro _
  congr 1
  (repeat' split)<;>simp [*]
theorem khas2_ok (f:Fl) (a b k:Int) (h:Heap):doCall E (callR E) 188 [.vs f [.int .i64 a,.int .i64 b],.int .i64 k] h=some (.bool (decide (k=a∨k=b)),h):=by
  have hi:∀ h,doCall E (callR E) 195 [.vs f [.int .i64 a,.int .i64 b],.int .i64 k] h=some (.int .i64 (if k=a then 0 else if k=b then 1 else -1),h):=by
    intro h
    refine Zg (pf:=p195) rfl rfl rfl rfl (by simp [PV.lowL,PV.low]) (by simp [PV.low,PV.lowL]) ?_ h
    show kQ E _ (endQ [⟨4,none⟩] _) .norm { lvl:=0,tmps:=mk 19 [(0,.vs f [.int .i64 a,.int .i64 b]),(1,.int .i64 k)],heap:=[[]],defers:=[] }
    repeat' first|(with_reducible first|refine cS ?_ ?_|refine oS ?_ ?_|refine dS ?_ ?_)<;>intro _|((with_reducible refine kk ?_ ?_);·rfl)|simp -implicitDefEqProofs(disch:=first|omega|assumption)only[push_cast,simprocAttr,Zd,Zc,Ze,Zb]|(with_reducible first|refine cB ?_ ?_|refine oB ?_ ?_|refine dB ?_ ?_)<;>intro _|refine loopK' (c:=p195l0) rfl ?_
    all_goals simp [*]
  refine Zg (pf:=p188) rfl rfl rfl rfl (by simp [PV.lowL,PV.low]) (by simp [PV.low,PV.lowL]) ?_ h
  show kQ E _ (endQ [⟨4,none⟩] _) .norm { lvl:=0,tmps:=mk 9 [(0,.vs f [.int .i64 a,.int .i64 b]),(1,.int .i64 k)],heap:=[[]],defers:=[] }
  repeat' first|(with_reducible first|refine cS ?_ ?_|refine oS ?_ ?_|refine dS ?_ ?_)<;>intro _|((with_reducible refine kk ?_ ?_);·rfl)|simp -implicitDefEqProofs(disch:=first|omega|assumption)only[push_cast,simprocAttr,Zd,Zc,Ze,Zb,hi]|(with_reducible first|refine cB ?_ ?_|refine oB ?_ ?_|refine dB ?_ ?_)<;>intro _
  congr 1
  (repeat' split)<;>simp [*]
theorem khas1_ok (f:Fl) (a k:Int) (h:Heap):doCall E (callR E) 188 [.vs f [.int .i64 a],.int .i64 k] h=some (.bool (decide (k=a)),h):=by
  have hi:∀ h,doCall E (callR E) 195 [.vs f [.int .i64 a],.int .i64 k] h=some (.int .i64 (if k=a then 0 else -1),h):=by
    intro h
    refine Zg (pf:=p195) rfl rfl rfl rfl (by simp [PV.lowL,PV.low]) (by simp [PV.low,PV.lowL]) ?_ h
    show kQ E _ (endQ [⟨4,none⟩] _) .norm { lvl:=0,tmps:=mk 19 [(0,.vs f [.int .i64 a]),(1,.int .i64 k)],heap:=[[]],defers:=[] }
    repeat' first|(with_reducible first|refine cS ?_ ?_|refine oS ?_ ?_|refine dS ?_ ?_)<;>intro _|((with_reducible refine kk ?_ ?_);·rfl)|simp -implicitDefEqProofs(disch:=first|omega|assumption)only[push_cast,simprocAttr,Zd,Zc,Ze,Zb]|(with_reducible first|refine cB ?_ ?_|refine oB ?_ ?_|refine dB ?_ ?_)<;>intro _|refine loopK' (c:=p195l0) rfl ?_
    all_goals simp [*]
  refine Zg (pf:=p188) rfl rfl rfl rfl (by simp [PV.lowL,PV.low]) (by simp [PV.low,PV.lowL]) ?_ h
  show kQ E _ (endQ [⟨4,none⟩] _) .norm { lvl:=0,tmps:=mk 9 [(0,.vs f [.int .i64 a]),(1,.int .i64 k)],heap:=[[]],defers:=[] }
  repeat' first|(with_reducible first|refine cS ?_ ?_|refine oS ?_ ?_|refine dS ?_ ?_)<;>intro _|((with_reducible refine kk ?_ ?_);·rfl)|simp -implicitDefEqProofs(disch:=first|omega|assumption)only[push_cast,simprocAttr,Zd,Zc,Ze,Zb,hi]|(with_reducible first|refine cB ?_ ?_|refine oB ?_ ?_|refine dB ?_ ?_)<;>intro _
  congr 1
  (repeat' split)<;>simp [*]
def fitG:List Ty→List Fld→Bool
  | [],[]=>true
  | t::r,f::s=>decide (t=f.ty)&&fitG r s
  | _,_=>false
def matchF (ts:List Ty) (ps:List Fld) (res:Ty):Ty × Int:=if ts.length≠ps.length then (tz,11) else if fitG ts ps then (res,0) else (tz,12)
theorem match_loop {fa fp:Fl} {ts:List Ty} {ps:List Fld} {res:Ty} (hl:ts.length=ps.length) (hb:ps.length≤1048576) {ks:List KI} {Q:PEx→Fr→Prop} {z:PV}
    (hr:∀ t ob,fitG ts ps=false→look t 6=.ptr (0,0) 1 0 0→look t 7=.int .i64 12→kQ E ks Q .ret { lvl:=0,tmps:=mk 33 t,heap:=[[some (.mem [.agg [.int .i64 0,.str []]] 1 false 2),ob]],defers:=[] })
    (hn:∀ t ob,fitG ts ps=true→look t 5=.ip [.int .i64 res.kind,.str res.name]→look t 6=.ptr (0,0) 1 0 0→kQ E ks Q .norm { lvl:=0,tmps:=mk 33 t,heap:=[[some (.mem [.agg [.int .i64 0,.str []]] 1 false 2),ob]],defers:=[] }) :
    ∀ (rt pt:List Ty) (rp pp:List Fld) (ob:Option Ob) (t:List (Nat × PV)),ts=pt++rt→ps=pp++rp→pt.length=pp.length→fitG rt rp=fitG ts ps →
      look t 1=.vs fp (flds ps)→look t 5=.ip [.int .i64 res.kind,.str res.name]→look t 6=.ptr (0,0) 1 0 0→look t 16=.vs fa (tys ts)→look t 17=.int .i64 ts.length→look t 18=.int .i64 pt.length →
      kQ E (.code p167l0::.blk 0::ks) Q .norm { lvl:=0,tmps:=mk 33 t,heap:=[[some (.mem [.agg [.int .i64 0,.str []]] 1 false 2),ob]],defers:=[] }:=by
  intro rt
  induction rt with
  | nil =>
    intro pt rp pp ob t ht hp hpl hf h1 h5 h6 h16 h17 h18
    have e:ts.length=pt.length:=by rw [ht];simp
    have e2:rp=[]:=by
      have:=congrArg List.length hp
      simp at this
      exact List.eq_nil_of_length_eq_zero (by omega)
    subst e2
    refine loopK' (c:=p167l0) rfl ?_
    repeat' first|(with_reducible first|refine cS ?_ ?_|refine oS ?_ ?_|refine dS ?_ ?_)<;>intro _|((with_reducible refine kk ?_ ?_);·rfl)|simp -implicitDefEqProofs(disch:=first|omega|assumption)only[push_cast,simprocAttr,Zd,Zc,Ze,Zb,h1,h5,h6,h16,h17,h18,e]|(with_reducible first|refine cB ?_ ?_|refine oB ?_ ?_|refine dB ?_ ?_)<;>intro _
    exact hn _ _ hf.symm (by simp [look,Za,h5]) (by simp [look,Za,h6])
  | cons s r ih =>
    intro pt rp pp ob t ht hp hpl hf h1 h5 h6 h16 h17 h18
    have e:ts.length=pt.length+r.length+1:=by rw [ht];simp;omega
    have elp:ps.length=pp.length+rp.length:=by rw [hp];simp
    match rp,elp,hp,hf with
    | [],elp,_,_=>simp at elp;omega
    | f::rp',elp,hp,hf =>
      have hg:(tys ts)[pt.length]?=some (.agg [.int .i64 s.kind,.str s.name]):=by rw [ht];exact Yd _ _ _ _
      have hg2:(flds ps)[pt.length]?=some (.agg [.str f.name,.int .i64 f.ty.kind,.str f.ty.name]):=by rw [hp,hpl];exact Yd _ _ _ _
      refine loopK' (c:=p167l0) rfl ?_
      repeat' first|(with_reducible first|refine cS ?_ ?_|refine oS ?_ ?_|refine dS ?_ ?_)<;>intro _|((with_reducible refine kk ?_ ?_);·rfl)|simp -implicitDefEqProofs(disch:=first|omega|assumption)only[push_cast,simprocAttr,Zb,Xu,Y8,h1,h5,h6,h16,h17,h18,hg,hg2]|(with_reducible first|refine cB ?_ ?_|refine oB ?_ ?_|refine dB ?_ ?_)<;>intro _
      · rename_i hne
        exact hr _ _ (by rw [← hf];simp [fitG,hne]) (by simp [look,Za,h6]) (by simp [look])
      · rename_i heq
        have heq':s=f.ty:=by simpa using heq
        exact ih (pt++[s]) rp' (pp++[f]) _ _ (by simp [ht]) (by simp [hp]) (by simp [hpl]) (by rw [← hf];simp [fitG,heq']) (by simp [look,Za,h1]) (by simp [look,Za,h5]) (by simp [look,Za,h6]) (by simp [look,Za,h16]) (by simp [look,Za,h17]) (by simp [look,Za])
theorem match_ok (fa fp:Fl) (ts:List Ty) (ps:List Fld) (res:Ty) (hb:ps.length≤1048576) (hb2:ts.length≤1048576) (h:Heap):doCall E (callR E) 167 [.vs fa (tys ts),.vs fp (flds ps),.agg [.int .i64 res.kind,.str res.name]] h=some (encR (matchF ts ps res),h):=by
  refine Zg (pf:=p167) rfl rfl rfl rfl (by simp [PV.lowL,PV.low,Zr,Zi]) (by simp [PV.low,PV.lowL,Zr,Zi]) ?_ h
  show kQ E _ (endQ [⟨6,some (some 2)⟩,⟨7,none⟩] _) .norm { lvl:=0,tmps:=mk 33 [(0,.vs fa (tys ts)),(1,.vs fp (flds ps)),(2,.agg [.int .i64 res.kind,.str res.name])],heap:=[[none,none]],defers:=[] }
  by_cases hl:ts.length=ps.length
  · repeat' first|(with_reducible first|refine cS ?_ ?_|refine oS ?_ ?_|refine dS ?_ ?_)<;>intro _|((with_reducible refine kk ?_ ?_);·rfl)|simp -implicitDefEqProofs(disch:=first|omega|assumption)only[push_cast,simprocAttr,Zd,Zc,Ze,Zb,Z8]|(with_reducible first|refine cB ?_ ?_|refine oB ?_ ?_|refine dB ?_ ?_)<;>intro _
    refine match_loop (fa:=fa) (fp:=fp) (ts:=ts) (ps:=ps) (res:=res) (z:=.junk) hl hb ?_ ?_ ts [] ps [] _ _ rfl rfl rfl rfl (by simp [look,Za]) (by simp [look,Za]) (by simp [look,Za]) (by simp [look,Za]) (by simp [look,Za]) (by simp [look,Za])
    · intro t ob hf h6 h7
      repeat' first|(with_reducible first|refine cS ?_ ?_|refine oS ?_ ?_|refine dS ?_ ?_)<;>intro _|((with_reducible refine kk ?_ ?_);·rfl)|simp -implicitDefEqProofs(disch:=first|omega|assumption)only[push_cast,simprocAttr,Zd,Zc,Ze,Zb,h6,h7]|(with_reducible first|refine cB ?_ ?_|refine oB ?_ ?_|refine dB ?_ ?_)<;>intro _
      simp [matchF,hl,hf]
    · intro t ob hf h5 h6
      repeat' first|(with_reducible first|refine cS ?_ ?_|refine oS ?_ ?_|refine dS ?_ ?_)<;>intro _|((with_reducible refine kk ?_ ?_);·rfl)|simp -implicitDefEqProofs(disch:=first|omega|assumption)only[push_cast,simprocAttr,Zd,Zc,Ze,Zb,h5,h6]|(with_reducible first|refine cB ?_ ?_|refine oB ?_ ?_|refine dB ?_ ?_)<;>intro _
      simp [matchF,hl,hf]
  · repeat' first|(with_reducible first|refine cS ?_ ?_|refine oS ?_ ?_|refine dS ?_ ?_)<;>intro _|((with_reducible refine kk ?_ ?_);·rfl)|simp -implicitDefEqProofs(disch:=first|omega|assumption)only[push_cast,simprocAttr,Zd,Zc,Ze,Zb,Z8]|(with_reducible first|refine cB ?_ ?_|refine oB ?_ ?_|refine dB ?_ ?_)<;>intro _
    simp [matchF,hl]
end
section
def arityF (k:Int):Int:=if k=1∨k=2∨k=3∨k=4 then 0 else if k=5∨k=8 then 1 else if k=6∨k=9 then 2 else -1
theorem arity_ok (k:Int) (h:Heap):doCall E (callR E) 91 [.int .i64 k] h=some (.int .i64 (arityF k),h):=by
  refine Zg (pf:=p91) rfl rfl rfl rfl (by simp [PV.lowL,PV.low]) (by simp [PV.low,PV.lowL]) ?_ h
  show kQ E _ (endQ [⟨2,none⟩] _) .norm { lvl:=0,tmps:=mk 15 [(0,.int .i64 k)],heap:=[[]],defers:=[] }
  repeat' first|(with_reducible first|refine cS ?_ ?_|refine oS ?_ ?_|refine dS ?_ ?_)<;>intro _|((with_reducible refine kk ?_ ?_);·rfl)|simp -implicitDefEqProofs(disch:=first|omega|assumption)only[push_cast,simprocAttr,Zd,Zc,Ze,Zb]|(with_reducible first|refine cB ?_ ?_|refine oB ?_ ?_|refine dB ?_ ?_)<;>intro _
  all_goals (unfold arityF;congr 1;(repeat' split)<;>omega)
def resNames:List Str:=[[115,97,109,112,108,101],[102,101,116,99,104],[108,111,97,100],[100,100,120],[100,100,121]]
def takesF (m:Mod) (k:Int) (nm:Str):Bool:=decide (nm∈resNames)&&(decide (k=7)&&decide (stF m nm<0))
theorem Yg (m:Mod) (hm:m.Ok) (k o x:Int) (nm:Str) (fl:Fl) (as:List Ex) (h:Heap):doCall E (callR E) 92 [.agg m.c,.agg [.int .i64 k,.int .i64 o,.str nm,.int .i64 x,.vs fl (exs as)]] h=some (.bool (takesF m k nm),h):=by
  have h1:=m.hm
  refine Zg (pf:=p92) rfl rfl rfl rfl (by simp [PV.lowL,PV.low,Zj,Zi,Zk,Zl,h1,Zo]) (by simp [PV.low,PV.lowL,Zj,Zi,Zk,Zl,h1,Zo]) ?_ h
  show kQ E _ (endQ [⟨4,none⟩] _) .norm { lvl:=0,tmps:=mk 23 [(0,.agg m.c),(1,.agg [.int .i64 k,.int .i64 o,.str nm,.int .i64 x,.vs fl (exs as)])],heap:=[[]],defers:=[] }
  repeat' first|(with_reducible first|refine cS ?_ ?_|refine oS ?_ ?_|refine dS ?_ ?_)<;>intro _|((with_reducible refine kk ?_ ?_);·rfl)|simp -implicitDefEqProofs(disch:=first|omega|assumption)only[push_cast,simprocAttr,Zd,Zc,Ze,Zb,h1,binS,Yu,Yr,hm]|(with_reducible first|refine cB ?_ ?_|refine oB ?_ ?_|refine dB ?_ ?_)<;>intro _
  all_goals simp_all [takesF,resNames]
def lastF (l:List Fld) (nm:Str):Option Fld:=l.reverse.find? fun f=>decide (f.name=nm)
def firstF (l:List Fld) (nm:Str):Option Fld:=l.find? fun f=>decide (f.name=nm)
def varF (m:Mod) (sc:List Fld) (nm:Str):Option Ty :=
  ((lastF sc nm).or ((firstF m.us nm).or ((firstF m.ins nm).or (firstF m.outs nm)))).map Fld.ty
abbrev encV (r:Option Ty):PV:=.tuple [.agg [.int .i64 (r.getD tz).kind,.str (r.getD tz).name],.bool r.isSome]
def varR (m:Mod) (sc:List Fld) (nm:Str):Ty × Int:=match varF m sc nm with|some t=>(t,0)|none=>(tz,13)
theorem fdG_first:∀ (l:List Fld) (nm:Str) (i:Int),0≤i→(idxG (fun s=>decide (s.name=nm)) l i = -1→firstF l nm=none)∧(0≤idxG (fun s=>decide (s.name=nm)) l i→∃ f,l[(idxG (fun s=>decide (s.name=nm)) l i - i).toNat]?=some f∧firstF l nm=some f)
  | [],nm,i,_=>by simp [idxG,firstF]
  | f::r,nm,i,hi=>by
    by_cases hf:f.name=nm
    · simp [idxG,firstF,hf]
      omega
    · have ih:=fdG_first r nm (i+1) (by omega)
      have e:idxG (fun s=>decide (s.name=nm)) (f::r) i=idxG (fun s=>decide (s.name=nm)) r (i+1):=by simp [idxG,hf]
      have e2:firstF (f::r) nm=firstF r nm:=by simp [firstF,hf]
      rw [e,e2]
      refine ⟨ih.1,fun h1=>?_⟩
      obtain ⟨g,h2,h3⟩:=ih.2 h1
      refine ⟨g,?_,h3⟩
      rcases idxG_nat (fun s:Fld=>decide (s.name=nm)) r (i+1) with h|h
      · omega
      · have:(idxG (fun s=>decide (s.name=nm)) r (i+1) - i).toNat=(idxG (fun s=>decide (s.name=nm)) r (i+1) - (i+1)).toNat+1:=by omega
        rw [this,List.getElem?_cons_succ]
        exact h2
theorem fd_none {l:List Fld} {nm:Str} (h:fdF l nm<0):firstF l nm=none:=(fdG_first l nm 0 (by omega)).1 ((Xq _ _).2.2 h)
theorem fd_some {l:List Fld} {nm:Str} (h:0≤fdF l nm):∃ f,l[(fdF l nm).toNat]?=some f∧firstF l nm=some f:=by
  obtain ⟨f,h1,h2⟩:=(fdG_first l nm 0 (by omega)).2 h
  exact ⟨f,by simpa [fdF,idxF] using h1,h2⟩
theorem fd_get {l:List Fld} {nm:Str} (h:0≤fdF l nm):∃ f,(flds l)[(fdF l nm).toNat]?=some (.agg [.str f.name,.int .i64 f.ty.kind,.str f.ty.name])∧firstF l nm=some f∧tyAt l (fdF l nm)=f.ty:=by
  obtain ⟨f,h1,h2⟩:=fd_some h
  exact ⟨f,by simp [flds,h1],h2,by simp [tyAt,h1]⟩
end
section
abbrev cell0:Option Ob:=some (.mem [.agg [.int .i64 0,.str []]] 1 false 2)
section
variable (nm:Str) (l:List (Nat × PV)) (G:Nat) 
def vLoop (l:List (Nat × PV)) (j:Option PEx) (G:Nat):Ob:=.loop (mk 47 l) [15,16] p128ra0 p128rb0 j G
def vHeap (l:List (Nat × PV)) (G:Nat)  : Heap:=[[some (.mem [.agg [.int .i64 0,.str []]] 1 false 2),some (.mem [.bool false] 1 false 1),some (vLoop l none G),none],[]]
def vHeap' (l:List (Nat × PV)) (G:Nat)  (f:Fld):Heap:=[[some (.mem [.agg [.int .i64 f.ty.kind,.str f.ty.name]] 1 false 2),some (.mem [.bool true] 1 false 1),some (vLoop l (some .ret) G),none],[]]
theorem var_yield (hlo:PV.lowL 2 (mk 47 l)=true) (h5:look l 5=.ip [.str nm]) (h6:look l 6=.ptr (0,0) 1 0 0) (h7:look l 7=.ptr (0,1) 1 0 0) (i:Int) (f:Fld) :
    yieldR E (0,2) [.int .i64 i,.agg [.str f.name,.int .i64 f.ty.kind,.str f.ty.name]] (vHeap l G)=some (.bool (!decide (f.name=nm)),if f.name=nm then vHeap' l G f else vHeap l G):=by
  refine yield_rule (T:=mk 47 l) (ps:=[15,16]) (a:=p128ra0) (b:=p128rb0) (g:=G) rfl rfl ?_
  show kQ E [.code p128ra0] _ .norm { lvl:=2,tmps:=((mk 47 l).set 15 _).set 16 _,heap:=[_,[],[none,none,none,none]],defers:=[] }
  by_cases hnm:f.name=nm
  · have pn:=eq_true hnm
    repeat' first|(with_reducible first|refine cS ?_ ?_|refine oS ?_ ?_|refine dS ?_ ?_)<;>intro _|((with_reducible refine kk ?_ ?_);·rfl)|simp -implicitDefEqProofs(disch:=first|omega|assumption)only[push_cast,simprocAttr,Zd,Zc,Ze,Zb,List.getD_cons_zero,List.getD_cons_succ,p128ra0,p128rb0,vHeap,vHeap',vLoop,h5,h6,h7,hget_00,hget_ss,hset_00,hset_ss,binS,Yu,pn]|(with_reducible first|refine cB ?_ ?_|refine oB ?_ ?_|refine dB ?_ ?_)<;>intro _
    simp [endRoundE,heapLow,obLow,PV.low,PV.lowL,hlo,hnm]
  · have pn:=eq_false hnm
    repeat' first|(with_reducible first|refine cS ?_ ?_|refine oS ?_ ?_|refine dS ?_ ?_)<;>intro _|((with_reducible refine kk ?_ ?_);·rfl)|simp -implicitDefEqProofs(disch:=first|omega|assumption)only[push_cast,simprocAttr,Zd,Zc,Ze,Zb,List.getD_cons_zero,List.getD_cons_succ,p128ra0,p128rb0,vHeap,vHeap',vLoop,h5,h6,h7,hget_00,hget_ss,hset_00,hset_ss,binS,Yu,pn]|(with_reducible first|refine cB ?_ ?_|refine oB ?_ ?_|refine dB ?_ ?_)<;>intro _
    simp [endRoundE,heapLow,obLow,PV.low,PV.lowL,hlo,hnm]
end
theorem vHeap_get {l:List (Nat × PV)} {G:Nat}:hget (vHeap l G) (0,2)=some (.loop (mk 47 l) [15,16] p128ra0 p128rb0 none G):=rfl
theorem back_loop (sc:List Fld) (hsc:sc.length≤1048576) {f:Fl} (nm:Str) (l:List (Nat × PV)) (G:Nat) (hlo:PV.lowL 2 (mk 47 l)=true) (h5:look l 5=.ip [.str nm]) (h6:look l 6=.ptr (0,0) 1 0 0) (h7:look l 7=.ptr (0,1) 1 0 0) {ks:List KI} {Q:PEx→Fr→Prop}
    (hr:∀ t x,lastF sc nm=some x→kQ E ks Q .ret { lvl:=1,tmps:=mk 19 t,heap:=vHeap' l G x,defers:=[] })
    (hn:∀ t,lastF sc nm=none→kQ E ks Q .norm { lvl:=1,tmps:=mk 19 t,heap:=vHeap l G,defers:=[] }) :
    ∀ (n:Nat) (t:List (Nat × PV)),n≤sc.length→lastF (sc.take n) nm=lastF sc nm→look t 0=.yld (0,2) G→look t 1=.ip [.vs f (flds sc)]→look t 3=.int .i64 ((n:Int) - 1) →
      kQ E (.code p187l0::.blk 0::ks) Q .norm { lvl:=1,tmps:=mk 19 t,heap:=vHeap l G,defers:=[] }:=by
  intro n
  induction n with
  | zero =>
    intro t hn0 hl k0 k1 k3
    refine loopK' (c:=p187l0) rfl ?_
    repeat' first|(with_reducible first|refine cS ?_ ?_|refine oS ?_ ?_|refine dS ?_ ?_)<;>intro _|((with_reducible refine kk ?_ ?_);·rfl)|simp -implicitDefEqProofs(disch:=first|omega|assumption)only[push_cast,simprocAttr,Zd,Zc,Ze,Zb,k0,k1,k3]|(with_reducible first|refine cB ?_ ?_|refine oB ?_ ?_|refine dB ?_ ?_)<;>intro _
    exact hn _ (by rw [← hl];rfl)
  | succ n ih =>
    intro t hn0 hl k0 k1 k3
    obtain ⟨x,hx⟩:∃ x,sc[n]?=some x:=⟨sc[n],by simp [show n<sc.length from hn0]⟩
    have hg:(flds sc)[n]?=some (.agg [.str x.name,.int .i64 x.ty.kind,.str x.ty.name]):=by simp [flds,hx]
    have hy:=fun i=>var_yield nm l G hlo h5 h6 h7 i x
    have e1:((n+1:Nat):Int) - 1=n:=by omega
    have e2:((n:Int)+1 - 1)=n:=by omega
    have ht:sc.take (n+1)=sc.take n++[x]:=by rw [List.take_add_one,hx];rfl
    rw [e1] at k3
    refine loopK' (c:=p187l0) rfl ?_
    by_cases hnm:x.name=nm
    · have pn:=eq_true hnm
      have hlx:lastF sc nm=some x:=by rw [← hl,ht];simp [lastF,hnm]
      repeat' first|(with_reducible first|refine cS ?_ ?_|refine oS ?_ ?_|refine dS ?_ ?_)<;>intro _|((with_reducible refine kk ?_ ?_);·rfl)|simp -implicitDefEqProofs(disch:=first|omega|assumption)only[push_cast,simprocAttr,Zd,Zc,Ze,Zb,k0,k1,k3,hg,vHeap_get,hy,pn]|(with_reducible first|refine cB ?_ ?_|refine oB ?_ ?_|refine dB ?_ ?_)<;>intro _
      exact hr _ x hlx
    · have pn:=eq_false hnm
      have hlx:lastF (sc.take n) nm=lastF sc nm:=by rw [← hl,ht];simp [lastF,hnm]
      repeat' first|(with_reducible first|refine cS ?_ ?_|refine oS ?_ ?_|refine dS ?_ ?_)<;>intro _|((with_reducible refine kk ?_ ?_);·rfl)|simp -implicitDefEqProofs(disch:=first|omega|assumption)only[push_cast,simprocAttr,Zd,Zc,Ze,Zb,k0,k1,k3,hg,vHeap_get,hy,pn]|(with_reducible first|refine cB ?_ ?_|refine oB ?_ ?_|refine dB ?_ ?_)<;>intro _
      refine ih _ (by omega) hlx (by simp [look,Za,k0]) (by simp [look,Za,k1]) (by simp [look,Za])
def vTop (l:List (Nat × PV)) (G:Nat) (r:Option Fld):Heap:=match r with
  | none=>[[cell0,some (.mem [.bool false] 1 false 1),some (vLoop l none G),none]]
  | some f=>[[some (.mem [.agg [.int .i64 f.ty.kind,.str f.ty.name]] 1 false 2),some (.mem [.bool true] 1 false 1),some (vLoop l (some .ret) G),none]]
theorem back_ok (sc:List Fld) (hsc:sc.length≤1048576) (f:Fl) (nm:Str) (l:List (Nat × PV)) (G:Nat) (hlo:PV.lowL 2 (mk 47 l)=true) (hlo1:PV.lowL 1 (mk 47 l)=true) (h5:look l 5=.ip [.str nm]) (h6:look l 6=.ptr (0,0) 1 0 0) (h7:look l 7=.ptr (0,1) 1 0 0) :
    doCall E (callR E) 187 [.yld (0,2) G,.ip [.vs f (flds sc)]] [[cell0,some (.mem [.bool false] 1 false 1),some (.loop (mk 47 l) [15,16] p128ra0 p128rb0 none G),none]]=some (.tuple [],vTop l G (lastF sc nm)):=by
  refine Z7 (pf:=p187) rfl rfl rfl rfl rfl rfl ?_
  show kQ E _ (endM [] _ 1 _) .norm { lvl:=1,tmps:=mk 19 [(0,.yld (0,2) G),(1,.ip [.vs f (flds sc)])],heap:=vHeap l G,defers:=[] }
  repeat' first|(with_reducible first|refine cS ?_ ?_|refine oS ?_ ?_|refine dS ?_ ?_)<;>intro _|((with_reducible refine kk ?_ ?_);·rfl)|simp -implicitDefEqProofs(disch:=first|omega|assumption)only[push_cast,simprocAttr,Zd,Zc,Ze,Zb]|(with_reducible first|refine cB ?_ ?_|refine oB ?_ ?_|refine dB ?_ ?_)<;>intro _
  refine back_loop sc hsc (f:=f) nm l G hlo h5 h6 h7 ?_ ?_ sc.length _ (Nat.le_refl _) (by rw [List.take_length]) (by simp [look,Za]) (by simp [look,Za]) (by simp [look,Za])
  · intro t x hx
    repeat' first|(with_reducible first|refine cS ?_ ?_|refine oS ?_ ?_|refine dS ?_ ?_)<;>intro _|((with_reducible refine kk ?_ ?_);·rfl)|simp -implicitDefEqProofs(disch:=first|omega|assumption)only[push_cast,simprocAttr,Zd,Zc,Ze,Zb]|(with_reducible first|refine cB ?_ ?_|refine oB ?_ ?_|refine dB ?_ ?_)<;>intro _
    rw [hx]
    simp [endM,allMarks,resultsE,mapO,vHeap',vTop,heapLow,obLow,PV.low,PV.lowL,vLoop,hlo1]
  · intro t hx
    repeat' first|(with_reducible first|refine cS ?_ ?_|refine oS ?_ ?_|refine dS ?_ ?_)<;>intro _|((with_reducible refine kk ?_ ?_);·rfl)|simp -implicitDefEqProofs(disch:=first|omega|assumption)only[push_cast,simprocAttr,Zd,Zc,Ze,Zb]|(with_reducible first|refine cB ?_ ?_|refine oB ?_ ?_|refine dB ?_ ?_)<;>intro _
    rw [hx]
    simp [endM,allMarks,resultsE,mapO,vHeap,vTop,heapLow,obLow,PV.low,PV.lowL,vLoop,hlo1]
theorem bw_ok (f:Fl) (sc:List Fld) (h:Heap):doCall E (callR E) 163 [.vs f (flds sc)] h=some (.fn 187 [] [.ip [.vs f (flds sc)]],h):=by
  refine Zg (pf:=p163) rfl rfl rfl rfl (by simp [PV.lowL,PV.low,Zi]) (by simp [PV.low,PV.lowL,Zi]) ?_ h
  show kQ E _ (endQ [⟨2,none⟩] _) .norm { lvl:=0,tmps:=mk 4 [(0,.vs f (flds sc))],heap:=[[]],defers:=[] }
  repeat' first|(with_reducible first|refine cS ?_ ?_|refine oS ?_ ?_|refine dS ?_ ?_)<;>intro _|((with_reducible refine kk ?_ ?_);·rfl)|simp -implicitDefEqProofs(disch:=first|omega|assumption)only[push_cast,simprocAttr,Zd,Zc,Ze,Zb]|(with_reducible first|refine cB ?_ ?_|refine oB ?_ ?_|refine dB ?_ ?_)<;>intro _
set_option maxHeartbeats 2000000 in
theorem var_ok (m:Mod) (hm:m.Ok) (fs:Fl) (sc:List Fld) (hsc:sc.length≤1048576) (nm:Str) (h:Heap):doCall E (callR E) 128 [.agg m.c,.vs fs (flds sc),.str nm] h=some (encV (varF m sc nm),h):=by
  have h1:=m.hm
  have g1:=hm.us
  have g2:=hm.ins
  have g3:=hm.outs
  have p1:=fdF_bd m.us nm
  have p2:=fdF_bd m.ins nm
  have p3:=fdF_bd m.outs nm
  refine call_pureM (pf:=p128) rfl rfl rfl rfl (by simp [PV.lowL,PV.low,Zj,Zi,Zk,Zl,h1]) (by simp [PV.low,PV.lowL,Zj,Zi,Zk,Zl,h1]) ?_ h
  show kQ E _ (endM [⟨6,some (some 2)⟩,⟨7,some none⟩] _ 0 _) .norm { lvl:=0,tmps:=mk 47 [(0,.agg m.c),(1,.vs fs (flds sc)),(2,.str nm)],heap:=[[none,none,none,none]],defers:=[] }
  repeat' first|(with_reducible first|refine cS ?_ ?_|refine oS ?_ ?_|refine dS ?_ ?_)<;>intro _|((with_reducible refine kk ?_ ?_);·rfl)|simp -implicitDefEqProofs(disch:=first|omega|assumption)only[push_cast,simprocAttr,Zd,Zc,Ze,Zb,bw_ok]|(with_reducible first|refine cB ?_ ?_|refine oB ?_ ?_|refine dB ?_ ?_)<;>intro _
  cases hL:lastF sc nm with
  | some x =>
    have hb:=fun l a b c d e=>back_ok sc hsc fs nm l 1 a b c d e
    rw [hL] at hb
    refine rangef_rule (G:=1) rfl (by show 2<4;decide) rfl (hb _ ?_ ?_ ?_ ?_ ?_) rfl (fun h=>by cases h) (fun e he=>?_)
    · exact mk_low (by simp [PV.low,PV.lowL,Zj,Zi,Zk,Zl,h1])
    · exact mk_low (by simp [PV.low,PV.lowL,Zj,Zi,Zk,Zl,h1])
    · rfl
    · rfl
    · rfl
    · simp only [Option.some.injEq] at he
      subst he
      refine ⟨by simp,?_⟩
      repeat' first|(with_reducible first|refine cS ?_ ?_|refine oS ?_ ?_|refine dS ?_ ?_)<;>intro _|((with_reducible refine kk ?_ ?_);·rfl)|simp -implicitDefEqProofs(disch:=first|omega|assumption)only[push_cast,simprocAttr,Zd,Zc,Ze,Zb,vTop,h1,Zm,Zn,allMarks,heapLow,List.all_nil]|(with_reducible first|refine cB ?_ ?_|refine oB ?_ ?_|refine dB ?_ ?_)<;>intro _
      simp [varF,hL]
  | none =>
    have hb:=fun l a b c d e=>back_ok sc hsc fs nm l 1 a b c d e
    rw [hL] at hb
    refine rangef_rule (G:=1) rfl (by show 2<4;decide) rfl (hb _ ?_ ?_ ?_ ?_ ?_) rfl (fun _=>?_) (fun e he=>by cases he)
    · exact mk_low (by simp [PV.low,PV.lowL,Zj,Zi,Zk,Zl,h1])
    · exact mk_low (by simp [PV.low,PV.lowL,Zj,Zi,Zk,Zl,h1])
    · rfl
    · rfl
    · rfl
    · by_cases u:fdF m.us nm<0
      · have u1:=fd_none u
        by_cases i:fdF m.ins nm<0
        · have i1:=fd_none i
          by_cases o:fdF m.outs nm<0
          · have o1:=fd_none o
            repeat' first|(with_reducible first|refine cS ?_ ?_|refine oS ?_ ?_|refine dS ?_ ?_)<;>intro _|((with_reducible refine kk ?_ ?_);·rfl)|simp -implicitDefEqProofs(disch:=first|omega|assumption)only[push_cast,simprocAttr,Zd,Zc,Ze,Zb,vTop,Xt,g1,g2,g3,h1,Zm,Zn,allMarks,heapLow,List.all_nil]|(with_reducible first|refine cB ?_ ?_|refine oB ?_ ?_|refine dB ?_ ?_)<;>intro _|refine loopK' (c:=p128l1) rfl ?_
            all_goals simp [varF,hL,u1,i1,o1]
          · obtain ⟨f,o1,o2,o3⟩:=fd_get (l:=m.outs) (nm:=nm) (by omega)
            repeat' first|(with_reducible first|refine cS ?_ ?_|refine oS ?_ ?_|refine dS ?_ ?_)<;>intro _|((with_reducible refine kk ?_ ?_);·rfl)|simp -implicitDefEqProofs(disch:=first|omega|assumption)only[push_cast,simprocAttr,Zd,Zc,Ze,Zb,vTop,Xt,g1,g2,g3,o1,h1,Zm,Zn,allMarks,heapLow,List.all_nil]|(with_reducible first|refine cB ?_ ?_|refine oB ?_ ?_|refine dB ?_ ?_)<;>intro _|refine loopK' (c:=p128l1) rfl ?_
            all_goals simp [varF,hL,u1,i1,o2]
        · obtain ⟨f,i1,i2,i3⟩:=fd_get (l:=m.ins) (nm:=nm) (by omega)
          repeat' first|(with_reducible first|refine cS ?_ ?_|refine oS ?_ ?_|refine dS ?_ ?_)<;>intro _|((with_reducible refine kk ?_ ?_);·rfl)|simp -implicitDefEqProofs(disch:=first|omega|assumption)only[push_cast,simprocAttr,Zd,Zc,Ze,Zb,vTop,Xt,g1,g2,g3,i1,h1,Zm,Zn,allMarks,heapLow,List.all_nil]|(with_reducible first|refine cB ?_ ?_|refine oB ?_ ?_|refine dB ?_ ?_)<;>intro _|refine loopK' (c:=p128l1) rfl ?_
          all_goals simp [varF,hL,u1,i2]
      · obtain ⟨f,u1,u2,u3⟩:=fd_get (l:=m.us) (nm:=nm) (by omega)
        repeat' first|(with_reducible first|refine cS ?_ ?_|refine oS ?_ ?_|refine dS ?_ ?_)<;>intro _|((with_reducible refine kk ?_ ?_);·rfl)|simp -implicitDefEqProofs(disch:=first|omega|assumption)only[push_cast,simprocAttr,Zd,Zc,Ze,Zb,vTop,Xt,g1,g2,g3,u1,h1,Zm,Zn,allMarks,heapLow,List.all_nil]|(with_reducible first|refine cB ?_ ?_|refine oB ?_ ?_|refine dB ?_ ?_)<;>intro _|refine loopK' (c:=p128l1) rfl ?_
        all_goals simp [varF,hL,u2]
end
section
theorem tyne_ok (t u:Ty) (h:Heap):doCall E (callR E) 193 [.agg [.int .i64 u.kind,.str u.name],.ip [.int .i64 t.kind,.str t.name]] h=some (.bool (decide (¬ u=t)),h):=by
  refine Zg (pf:=p193) rfl rfl rfl rfl (by simp [PV.lowL,PV.low]) (by simp [PV.low,PV.lowL]) ?_ h
  show kQ E _ (endQ [⟨3,none⟩] _) .norm { lvl:=0,tmps:=mk 7 [(0,.agg [.int .i64 u.kind,.str u.name]),(1,.ip [.int .i64 t.kind,.str t.name])],heap:=[[]],defers:=[] }
  repeat' first|(with_reducible first|refine cS ?_ ?_|refine oS ?_ ?_|refine dS ?_ ?_)<;>intro _|((with_reducible refine kk ?_ ?_);·rfl)|simp -implicitDefEqProofs(disch:=first|omega|assumption)only[push_cast,simprocAttr,Zb,Xu,Y8]|(with_reducible first|refine cB ?_ ?_|refine oB ?_ ?_|refine dB ?_ ?_)<;>intro _
theorem tyi_loop {f:Fl} (ts:List Ty) (t0:Ty) (hb:ts.length≤1048576) {ks:List KI} {Q:PEx→Fr→Prop}
    (hr:∀ t,look t 4=.int .i64 (idxF (fun u=>decide (¬ u=t0)) ts)→kQ E ks Q .ret { lvl:=1,tmps:=mk 19 t,heap:=[[],[]],defers:=[] })
    (hn:∀ t,idxF (fun u=>decide (¬ u=t0)) ts = -1→kQ E ks Q .norm { lvl:=1,tmps:=mk 19 t,heap:=[[],[]],defers:=[] }) :
    ∀ (rest pre:List Ty)  (t:List (Nat × PV)),ts=pre++rest→(idxG (fun u=>decide (¬ u=t0)) rest pre.length=idxF (fun u=>decide (¬ u=t0)) ts) →
      look t 0=.vs f (tys ts)→look t 1=.fn 193 [] [.ip [.int .i64 t0.kind,.str t0.name]]→look t 7=.int .i64 ts.length→look t 8=.int .i64 pre.length →
      kQ E (.code p196l0::.blk 0::ks) Q .norm { lvl:=1,tmps:=mk 19 t,heap:=[[],[]],defers:=[] }:=by
  intro rest
  induction rest with
  | nil =>
    intro pre  t hl hi0 h0 h1 h7 h8
    have e:ts.length=pre.length:=by rw [hl];simp
    refine loopK' (c:=p196l0) rfl ?_
    repeat' first|(with_reducible first|refine cS ?_ ?_|refine oS ?_ ?_|refine dS ?_ ?_)<;>intro _|((with_reducible refine kk ?_ ?_);·rfl)|simp -implicitDefEqProofs(disch:=first|omega|assumption)only[push_cast,simprocAttr,Zd,Zc,Ze,Zb,h0,h1,h7,h8,e,Z8,tyne_ok]|(with_reducible first|refine cB ?_ ?_|refine oB ?_ ?_|refine dB ?_ ?_)<;>intro _
    exact hn _ hi0.symm
  | cons s r ih =>
    intro pre  t hl hi0 h0 h1 h7 h8
    have e:ts.length=pre.length+r.length+1:=by rw [hl];simp;omega
    have hg:(tys ts)[pre.length]?=some (.agg [.int .i64 s.kind,.str s.name]):=by rw [hl];exact Yd _ _ _ _
    refine loopK' (c:=p196l0) rfl ?_
    repeat' first|(with_reducible first|refine cS ?_ ?_|refine oS ?_ ?_|refine dS ?_ ?_)<;>intro _|((with_reducible refine kk ?_ ?_);·rfl)|simp -implicitDefEqProofs(disch:=first|omega|assumption)only[push_cast,simprocAttr,Zd,Zc,Ze,Zb,h0,h1,h7,h8,hg,Z8,tyne_ok]|(with_reducible first|refine cB ?_ ?_|refine oB ?_ ?_|refine dB ?_ ?_)<;>intro _
    · rename_i hp
      refine hr _ ?_
      simp only [look,if_pos,↓reduceIte,Nat.reduceEqDiff]
      rw [← hi0]
      simp [idxG] at hp ⊢
      simp [hp]
    · rename_i hp
      refine ih (pre++[s])  _ (by simp [hl]) (by rw [← hi0];simp [idxG] at hp ⊢;simp [hp]) (by simp [look,Za,h0]) (by simp [look,Za,h1]) (by simp [look,Za,h7]) (by simp [look,Za,h8])
theorem tyi_ok (f:Fl) (ts:List Ty) (t0:Ty) (hb:ts.length≤1048576):doCall E (callR E) 196 [.vs f (tys ts),.fn 193 [] [.ip [.int .i64 t0.kind,.str t0.name]]] [[]]=some (.int .i64 (idxF (fun u=>decide (¬ u=t0)) ts),[[]]):=by
  refine Z7 (pf:=p196) rfl rfl rfl rfl rfl rfl ?_
  show kQ E _ (endM [⟨4,none⟩] _ 1 _) .norm { lvl:=1,tmps:=mk 19 [(0,.vs f (tys ts)),(1,.fn 193 [] [.ip [.int .i64 t0.kind,.str t0.name]])],heap:=[[],[]],defers:=[] }
  repeat' first|(with_reducible first|refine cS ?_ ?_|refine oS ?_ ?_|refine dS ?_ ?_)<;>intro _|((with_reducible refine kk ?_ ?_);·rfl)|simp -implicitDefEqProofs(disch:=first|omega|assumption)only[push_cast,simprocAttr,Zd,Zc,Ze,Zb,Z8]|(with_reducible first|refine cB ?_ ?_|refine oB ?_ ?_|refine dB ?_ ?_)<;>intro _
  refine tyi_loop (f:=f) ts t0 hb ?_ ?_ ts [] _ rfl rfl (by simp [look,Za]) (by simp [look,Za]) (by simp [look,Za]) (by simp [look,Za])
  all_goals
    intro t h4
    repeat' first|(with_reducible first|refine cS ?_ ?_|refine oS ?_ ?_|refine dS ?_ ?_)<;>intro _|((with_reducible refine kk ?_ ?_);·rfl)|simp -implicitDefEqProofs(disch:=first|omega|assumption)only[push_cast,simprocAttr,Zd,Zc,Ze,Zb,h4,Zm,Zn,allMarks,heapLow,List.all_cons,List.all_nil]|(with_reducible first|refine cB ?_ ?_|refine oB ?_ ?_|refine dB ?_ ?_)<;>intro _
def allSame (ts:List Ty) (t:Ty):Bool:=ts.all fun u=>decide (u=t)
theorem allSame_idx (t:Ty):∀ (ts:List Ty) (i:Int),0≤i→decide (idxG (fun u=>decide (¬ u=t)) ts i≥0)=!allSame ts t
  | [],i,h=>by simp [idxG,allSame]
  | u::r,i,h=>by
    have ih:=allSame_idx t r (i+1) (by omega)
    by_cases hu:u=t
    · simp [idxG,allSame,hu] at ih ⊢;exact ih
    · simp [idxG,allSame,hu,h]
theorem allSame_idxF (t:Ty) (ts:List Ty):decide (idxF (fun u=>decide (¬ u=t)) ts≥0)=!allSame ts t:=allSame_idx t ts 0 (by omega)
theorem has_ok (f:Fl) (ts:List Ty) (t0:Ty) (hb:ts.length≤1048576) (h:Heap):doCall E (callR E) 192 [.vs f (tys ts),.fn 193 [] [.ip [.int .i64 t0.kind,.str t0.name]]] h=some (.bool (!allSame ts t0),h):=by
  have e:=allSame_idxF t0 ts
  refine Zg (pf:=p192) rfl rfl rfl rfl (by simp [PV.lowL,PV.low]) (by simp [PV.low,PV.lowL]) ?_ h
  show kQ E _ (endQ [⟨4,none⟩] _) .norm { lvl:=0,tmps:=mk 9 [(0,.vs f (tys ts)),(1,.fn 193 [] [.ip [.int .i64 t0.kind,.str t0.name]])],heap:=[[]],defers:=[] }
  repeat' first|(with_reducible first|refine cS ?_ ?_|refine oS ?_ ?_|refine dS ?_ ?_)<;>intro _|((with_reducible refine kk ?_ ?_);·rfl)|simp -implicitDefEqProofs(disch:=first|omega|assumption)only[push_cast,simprocAttr,Zd,Zc,Ze,Zb,tyi_ok,hb]|(with_reducible first|refine cB ?_ ?_|refine oB ?_ ?_|refine dB ?_ ?_)<;>intro _
  exact congrArg PV.bool e
theorem equal_ok (f:Fl) (ts:List Ty) (t0:Ty) (hb:ts.length≤1048576) (h:Heap):doCall E (callR E) 191 [.vs f (tys ts),.ip [.int .i64 t0.kind,.str t0.name]] h=some (.bool (allSame ts t0),h):=by
  refine Zg (pf:=p191) rfl rfl rfl rfl (by simp [PV.lowL,PV.low]) (by simp [PV.low,PV.lowL]) ?_ h
  show kQ E _ (endQ [⟨3,none⟩] _) .norm { lvl:=0,tmps:=mk 8 [(0,.vs f (tys ts)),(1,.ip [.int .i64 t0.kind,.str t0.name])],heap:=[[]],defers:=[] }
  repeat' first|(with_reducible first|refine cS ?_ ?_|refine oS ?_ ?_|refine dS ?_ ?_)<;>intro _|((with_reducible refine kk ?_ ?_);·rfl)|simp -implicitDefEqProofs(disch:=first|omega|assumption)only[push_cast,simprocAttr,Zd,Zc,Ze,Zb,has_ok,hb]|(with_reducible first|refine cB ?_ ?_|refine oB ?_ ?_|refine dB ?_ ?_)<;>intro _
  simp
theorem tys1 {a:Ty}:tys [a]=[.agg [.int .i64 a.kind,.str a.name]]:=rfl
def conN (m:Mod):List Ty→Int→Int
  | [],n=>n
  | t::r,n=>conN m r (if n+compF m t.kind t.name<1000 then n+compF m t.kind t.name else 1000)
def conBad (ts:List Ty):Bool:=ts.any fun t=>!decide (t=⟨1,[]⟩)&&!isVc t.kind
def conOk (k j:Int):Bool:=if k=1 then decide (j=3∨j=2∨j=4) else if k=2 then decide (j=1) else if k=3 then decide (j=1∨j=4) else decide (j=3)
def constructF (m:Mod) (k:Int) (ts:List Ty):Ty × Int :=
  if isVc k then (if conN m ts 0≠plainF k then (tz,11) else if conBad ts then (tz,12) else (⟨k,[]⟩,0))
  else match ts with
    | [t]=>typedF (conOk k t.kind) ⟨k,[]⟩
    | _=>(tz,11)
theorem con_loop (m:Mod) (hm:m.Ok) {f:Fl} (ts:List Ty) (hb:ts.length≤1048576) (k fin:Int) {o2 o3:Option Ob} {ks:List KI} {Q:PEx→Fr→Prop}
    (hn:∀ t o1,look t 1=.int .i64 k→look t 2=.vs f (tys ts)→look t 6=.ptr (0,0) 1 0 0→look t 8=.int .i64 fin→kQ E ks Q .norm { lvl:=0,tmps:=mk 77 t,heap:=[[cell0,o1,o2,o3]],defers:=[] }) :
    ∀ (rest pre:List Ty) (n:Int) (o1:Option Ob) (t:List (Nat × PV)),ts=pre++rest→(conN m rest n=fin)→(0≤n)→(n≤1000) →
      look t 1=.int .i64 k→look t 2=.vs f (tys ts)→look t 3=.ip m.c→look t 6=.ptr (0,0) 1 0 0→look t 8=.int .i64 n→look t 17=.vs f (tys ts)→look t 18=.int .i64 ts.length→look t 19=.int .i64 pre.length →
      kQ E (.code p166l0::.blk 0::ks) Q .norm { lvl:=0,tmps:=mk 77 t,heap:=[[cell0,o1,o2,o3]],defers:=[] }:=by
  intro rest
  have h1':=m.hm
  induction rest with
  | nil =>
    intro pre n o1 t hl hi0 hi1 hi2 h1 h2 h3 h6 h8 h17 h18 h19
    have e:ts.length=pre.length:=by rw [hl];simp
    refine loopK' (c:=p166l0) rfl ?_
    repeat' first|(with_reducible first|refine cS ?_ ?_|refine oS ?_ ?_|refine dS ?_ ?_)<;>intro _|((with_reducible refine kk ?_ ?_);·rfl)|simp -implicitDefEqProofs(disch:=first|omega|assumption)only[push_cast,simprocAttr,Zd,Zc,Ze,Zb,h1,h2,h3,h6,h8,h17,h18,h19,e,Z8,Xh,hm,h1']|(with_reducible first|refine cB ?_ ?_|refine oB ?_ ?_|refine dB ?_ ?_)<;>intro _
    simp only [conN] at hi0
    subst hi0
    exact hn _ _ (by simp [look,Za,h1]) (by simp [look,Za,h2]) (by simp [look,Za,h6]) (by simp [look,Za,h8])
  | cons s r ih =>
    intro pre n o1 t hl hi0 hi1 hi2 h1 h2 h3 h6 h8 h17 h18 h19
    have e:ts.length=pre.length+r.length+1:=by rw [hl];simp;omega
    have hg:(tys ts)[pre.length]?=some (.agg [.int .i64 s.kind,.str s.name]):=by rw [hl];exact Yd _ _ _ _
    have hc:=Yt m s.kind s.name
    refine loopK' (c:=p166l0) rfl ?_
    repeat' first|(with_reducible first|refine cS ?_ ?_|refine oS ?_ ?_|refine dS ?_ ?_)<;>intro _|((with_reducible refine kk ?_ ?_);·rfl)|simp -implicitDefEqProofs(disch:=first|omega|assumption)only[push_cast,simprocAttr,Zd,Zc,Ze,Zb,h1,h2,h3,h6,h8,h17,h18,h19,hg,Z8,Xh,hm,h1']|(with_reducible first|refine cB ?_ ?_|refine oB ?_ ?_|refine dB ?_ ?_)<;>intro _
    refine ih (pre++[s]) (if n+compF m s.kind s.name<1000 then n+compF m s.kind s.name else 1000) _ _ (by simp [hl]) (by rw [← hi0];rfl) (by split<;>omega) (by split<;>omega) (by simp [look,Za,h1]) (by simp [look,Za,h2]) (by simp [look,Za,h3]) (by simp [look,Za,h6]) (by simp [look,Za,h8]) (by simp [look,Za,h17]) (by simp [look,Za,h18]) (by simp [look,Za,h19])
theorem cob_loop {f:Fl} (ts:List Ty) (hb:ts.length≤1048576) (k:Int) {o1 o3:Option Ob} {ks:List KI} {Q:PEx→Fr→Prop}
    (hr:∀ t o2,conBad ts=true→look t 6=.ptr (0,0) 1 0 0→look t 7=.int .i64 12→kQ E ks Q .ret { lvl:=0,tmps:=mk 77 t,heap:=[[cell0,o1,o2,o3]],defers:=[] })
    (hn:∀ t o2,conBad ts=false→look t 1=.int .i64 k→look t 6=.ptr (0,0) 1 0 0→kQ E ks Q .norm { lvl:=0,tmps:=mk 77 t,heap:=[[cell0,o1,o2,o3]],defers:=[] }) :
    ∀ (rest pre:List Ty) (o2:Option Ob) (t:List (Nat × PV)),ts=pre++rest→(conBad rest=conBad ts) →
      look t 1=.int .i64 k→look t 6=.ptr (0,0) 1 0 0→look t 36=.vs f (tys ts)→look t 37=.int .i64 ts.length→look t 38=.int .i64 pre.length →
      kQ E (.code p166l1::.blk 2::ks) Q .norm { lvl:=0,tmps:=mk 77 t,heap:=[[cell0,o1,o2,o3]],defers:=[] }:=by
  intro rest
  have pu123:pureB E 123=true:=rfl
  have pu76:pureB E 76=true:=rfl
  induction rest with
  | nil =>
    intro pre o2 t hl hi0 h1 h6 h36 h37 h38
    have e:ts.length=pre.length:=by rw [hl];simp
    refine loopK' (c:=p166l1) rfl ?_
    repeat' first|(with_reducible first|refine cS ?_ ?_|refine oS ?_ ?_|refine dS ?_ ?_)<;>intro _|((with_reducible refine kk ?_ ?_);·rfl)|simp -implicitDefEqProofs(disch:=first|omega|assumption)only[push_cast,simprocAttr,Zb,h1,h6,h36,h37,h38,e,Z8,Xu,Y8,Ye,Y7]|(with_reducible first|refine cB ?_ ?_|refine oB ?_ ?_|refine dB ?_ ?_)<;>intro _
    exact hn _ _ hi0.symm (by simp [look,Za,h1]) (by simp [look,Za,h6])
  | cons s r ih =>
    intro pre o2 t hl hi0 h1 h6 h36 h37 h38
    have e:ts.length=pre.length+r.length+1:=by rw [hl];simp;omega
    have hg:(tys ts)[pre.length]?=some (.agg [.int .i64 s.kind,.str s.name]):=by rw [hl];exact Yd _ _ _ _
    refine loopK' (c:=p166l1) rfl ?_
    repeat' first|(with_reducible first|refine cS ?_ ?_|refine oS ?_ ?_|refine dS ?_ ?_)<;>intro _|((with_reducible refine kk ?_ ?_);·rfl)|simp -implicitDefEqProofs(disch:=first|omega|assumption)only[push_cast,simprocAttr,Zb,h1,h6,h36,h37,h38,hg,Z8,Xu,Y8,Ye,Y7]|(with_reducible first|refine cB ?_ ?_|refine oB ?_ ?_|refine dB ?_ ?_)<;>intro _
    · rename_i h1' h2'
      exact hr _ _ (by rw [← hi0];simp [conBad,h1'] at h2' ⊢;simp [h2']) (by simp [look,Za,h6]) (by simp [look])
    · rename_i h1' h2'
      refine ih (pre++[s]) _ _ (by simp [hl]) (by rw [← hi0];simp [conBad,h1'] at h2' ⊢;simp [h2']) (by simp [look,Za,h1]) (by simp [look,Za,h6]) (by simp [look,Za,h36]) (by simp [look,Za,h37]) (by simp [look,Za,h38])
    · rename_i h1'
      refine ih (pre++[s]) _ _ (by simp [hl]) (by rw [← hi0];simp [conBad,h1']) (by simp [look,Za,h1]) (by simp [look,Za,h6]) (by simp [look,Za,h36]) (by simp [look,Za,h37]) (by simp [look,Za,h38])
set_option maxHeartbeats 2000000 in
theorem construct_ok (m:Mod) (hm:m.Ok) (k:Int) (hk:1≤k∧k≤7) (f:Fl) (ts:List Ty) (hb:ts.length≤1048576) (h:Heap):doCall E (callR E) 166 [.agg m.c,.int .i64 k,.vs f (tys ts)] h=some (encR (constructF m k ts),h):=by
  have h1:=m.hm
  refine Zg (pf:=p166) rfl rfl rfl rfl (by simp [PV.lowL,PV.low,Zj,Zi,Zk,Zl,h1,Zr]) (by simp [PV.low,PV.lowL,Zj,Zi,Zk,Zl,h1,Zr]) ?_ h
  show kQ E _ (endQ [⟨6,some (some 2)⟩,⟨7,none⟩] _) .norm { lvl:=0,tmps:=mk 77 [(0,.agg m.c),(1,.int .i64 k),(2,.vs f (tys ts))],heap:=[[none,none,none,none]],defers:=[] }
  have pu123:pureB E 123=true:=rfl
  have pu188:pureB E 188=true:=rfl
  have pu164:pureB E 164=true:=rfl
  by_cases hv:isVc k=true
  · repeat' first|(with_reducible first|refine cS ?_ ?_|refine oS ?_ ?_|refine dS ?_ ?_)<;>intro _|((with_reducible refine kk ?_ ?_);·rfl)|simp -implicitDefEqProofs(disch:=first|omega|assumption)only[push_cast,simprocAttr,Zd,Zc,Ze,Zb,Ye,Y7,hv,Z8]|(with_reducible first|refine cB ?_ ?_|refine oB ?_ ?_|refine dB ?_ ?_)<;>intro _
    refine con_loop m hm (f:=f) ts hb k (conN m ts 0) ?_ ts [] 0 _ _ rfl rfl (by omega) (by omega) (by simp [look,Za]) (by simp [look,Za]) (by simp [look,Za]) (by simp [look,Za]) (by simp [look,Za]) (by simp [look,Za]) (by simp [look,Za]) (by simp [look,Za])
    intro t o1 k1 k2 k6 k8
    by_cases hc:conN m ts 0=plainF k
    · repeat' first|(with_reducible first|refine cS ?_ ?_|refine oS ?_ ?_|refine dS ?_ ?_)<;>intro _|((with_reducible refine kk ?_ ?_);·rfl)|simp -implicitDefEqProofs(disch:=first|omega|assumption)only[push_cast,simprocAttr,Zd,Zc,Ze,Zb,k1,k2,k6,k8,Ye,plain_ok,hc,Z8]|(with_reducible first|refine cB ?_ ?_|refine oB ?_ ?_|refine dB ?_ ?_)<;>intro _
      refine cob_loop (f:=f) ts hb k ?_ ?_ ts [] _ _ rfl rfl (by simp [look,Za,k1]) (by simp [look,Za,k6]) (by simp [look,Za,k2]) (by simp [look,Za]) (by simp [look,Za])
      · intro t o2 hbad q6 q7
        repeat' first|(with_reducible first|refine cS ?_ ?_|refine oS ?_ ?_|refine dS ?_ ?_)<;>intro _|((with_reducible refine kk ?_ ?_);·rfl)|simp -implicitDefEqProofs(disch:=first|omega|assumption)only[push_cast,simprocAttr,Zd,Zc,Ze,Zb,q6,q7]|(with_reducible first|refine cB ?_ ?_|refine oB ?_ ?_|refine dB ?_ ?_)<;>intro _
        simp [constructF,hv,hc,hbad]
      · intro t o2 hbad q1 q6
        repeat' first|(with_reducible first|refine cS ?_ ?_|refine oS ?_ ?_|refine dS ?_ ?_)<;>intro _|((with_reducible refine kk ?_ ?_);·rfl)|simp -implicitDefEqProofs(disch:=first|omega|assumption)only[push_cast,simprocAttr,Zd,Zc,Ze,Zb,q1,q6,Ye]|(with_reducible first|refine cB ?_ ?_|refine oB ?_ ?_|refine dB ?_ ?_)<;>intro _
        simp [constructF,hv,hc,hbad]
    · repeat' first|(with_reducible first|refine cS ?_ ?_|refine oS ?_ ?_|refine dS ?_ ?_)<;>intro _|((with_reducible refine kk ?_ ?_);·rfl)|simp -implicitDefEqProofs(disch:=first|omega|assumption)only[push_cast,simprocAttr,Zd,Zc,Ze,Zb,k1,k2,k6,k8,Ye,plain_ok,hc,Z8]|(with_reducible first|refine cB ?_ ?_|refine oB ?_ ?_|refine dB ?_ ?_)<;>intro _
      simp [constructF,hv,hc]
  · have hv':isVc k=false:=by simpa using hv
    have hk4:k=1∨k=2∨k=3∨k=4:=by simp [isVc] at hv;omega
    match ts,hb with
    | [],hb =>
      repeat' first|(with_reducible first|refine cS ?_ ?_|refine oS ?_ ?_|refine dS ?_ ?_)<;>intro _|((with_reducible refine kk ?_ ?_);·rfl)|simp -implicitDefEqProofs(disch:=first|omega|assumption)only[push_cast,simprocAttr,Zd,Zc,Ze,Zb,Ye,Y7,hv',Z8]|(with_reducible first|refine cB ?_ ?_|refine oB ?_ ?_|refine dB ?_ ?_)<;>intro _
      simp [constructF,hv']
    | [a],hb =>
      rcases hk4 with hk|hk|hk|hk
      all_goals subst hk
      all_goals
        repeat' first|(with_reducible first|refine cS ?_ ?_|refine oS ?_ ?_|refine dS ?_ ?_)<;>intro _|((with_reducible refine kk ?_ ?_);·rfl)|simp -implicitDefEqProofs(disch:=first|omega|assumption)only[push_cast,simprocAttr,Zd,Zc,Ze,Zb,Ye,Y7,hv',tys1,findE,setE,keySame,keyIs,Option.isSome_some,Option.isSome_none,Option.getD_some,Option.getD_none,khas3_ok,khas2_ok,khas1_ok,Xc]|(with_reducible first|refine cB ?_ ?_|refine oB ?_ ?_|refine dB ?_ ?_)<;>intro _
      all_goals simp [constructF,hv',conOk]
      all_goals trace_state
    | a::b::r,hb =>
      have hl:(tys (a::b::r)).length≠1:=by simp [tys]
      repeat' first|(with_reducible first|refine cS ?_ ?_|refine oS ?_ ?_|refine dS ?_ ?_)<;>intro _|((with_reducible refine kk ?_ ?_);·rfl)|simp -implicitDefEqProofs(disch:=first|omega|assumption)only[push_cast,simprocAttr,Zd,Zc,Ze,Zb,Ye,Y7,hv',hl,Z8]|(with_reducible first|refine cB ?_ ?_|refine oB ?_ ?_|refine dB ?_ ?_)<;>intro _
      all_goals simp [constructF,hv']
end
end Go.VI.S
