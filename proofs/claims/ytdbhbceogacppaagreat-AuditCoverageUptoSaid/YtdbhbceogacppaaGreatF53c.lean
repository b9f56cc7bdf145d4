/- Chapter 53: varyings. -/
import Derived.Test.YtdbhbceogacppaaGreatF53b
import Derived.Test.YtdbhbceogacppaaGreatVi49
set_option maxRecDepth 100000
set_option linter.unusedSimpArgs false
set_option linter.unusedVariables false
namespace Go.VI.S
open Go.VI
theorem ap_len {h:Heap} {L:List (Option Ob)}:(h++[L]).length=h.length+1:=by simp
theorem ap_get {h:Heap} {L:List (Option Ob)} {i:Nat}:hget (h++[L]) (h.length,i)=(L[i]?).bind id:=by simp [hget]
theorem ap_set {h:Heap} {L:List (Option Ob)} {i:Nat} {o:Ob}:hset (h++[L]) (h.length,i) o=h++[L.set i (some o)]:=by
  unfold hset
  induction h with
  | nil=>rfl
  | cons x h ih=>simpa using ih
theorem ap_gd {h:Heap} {L:List (Option Ob)}:(h++[L]).getD h.length []=L:=by simp
theorem ints_rep {n:Nat}:List.replicate n (PV.int .i64 0)=ints (List.replicate n 0):=by simp [ints]
theorem ints_set {l:List Int} {i:Nat} {v:Int}:(ints l).set i (.int .i64 v)=ints (l.set i v):=by simp [ints,List.map_set]
theorem ints_at {l:List Int} {i:Nat} (h:i<l.length):(ints l)[i]?=some (.int .i64 (l[i]'h)):=by simp [ints,h]
set_option maxHeartbeats 4000000 in
theorem val_loop (T:Tri) (hz:T.a.l.length≤1048576) (h:Heap) (d q:Int) {o0:Option Ob} (ho:o0=some (.mem [.agg [.int .i64 d,.int .i64 q]] 1 false 2)) {ks:List KI} {Q:PEx→Fr→Prop}
    (hn:∀ t (el:List Int),el.length=T.a.l.length→look t 8=.sl (h.length,1) 1 0 T.a.l.length→kQ E ks Q .norm { lvl:=h.length,tmps:=mk 54 t,heap:=h++[[o0,some (.mem (ints el) 1 true 1)]],defers:=[] }) :
    ∀ (rest pre:List Int) (el:List Int) (t:List (Nat × PV)),T.a.l=pre++rest→(el.length=T.a.l.length) →
      look t 3=.ip T.c→look t 7=.ptr (h.length,0) 1 0 0→look t 8=.sl (h.length,1) 1 0 T.a.l.length→look t 27=.vs T.a.fl (ints T.a.l)→look t 28=.int .i64 T.a.l.length→look t 29=.int .i64 pre.length →
      kQ E (.code p57l0::.blk 0::ks) Q .norm { lvl:=h.length,tmps:=mk 54 t,heap:=h++[[o0,some (.mem (ints el) 1 true 1)]],defers:=[] }:=by
  intro rest
  subst ho
  induction rest with
  | nil =>
    intro pre el t hl hi0 h3 h7 h8 h27 h28 h29
    have e:T.a.l.length=pre.length:=by rw [hl];simp
    refine loopK' (c:=p57l0) rfl ?_
    repeat' first|(with_reducible first|refine cS ?_ ?_|refine oS ?_ ?_|refine dS ?_ ?_)<;>intro _|((with_reducible refine kk ?_ ?_);·rfl)|simp -implicitDefEqProofs(disch:=first|omega|assumption)only[push_cast,simprocAttr,Zf,Ze,Zi,Zg,h3,h7,h8,h27,h28,h29,e,Yf]|(with_reducible first|refine cB ?_ ?_|refine oB ?_ ?_|refine dB ?_ ?_)<;>intro _
    exact hn _ _ hi0 (by simp [look,Za,h8])
  | cons s r ih =>
    intro pre el t hl hi0 h3 h7 h8 h27 h28 h29
    have e:T.a.l.length=pre.length+r.length+1:=by rw [hl];simp;omega
    have hg:(ints T.a.l)[pre.length]?=some (.int .i64 s):=by rw [hl];simp [ints]
    have hb:pre.length<el.length:=by omega
    have hge:=ints_at hb
    have hlt:pre.length<T.a.l.length:=by omega
    refine loopK' (c:=p57l0) rfl ?_
    repeat' first|(with_reducible first|refine cS ?_ ?_|refine oS ?_ ?_|refine dS ?_ ?_)<;>intro _|((with_reducible refine kk ?_ ?_);·rfl)|simp -implicitDefEqProofs(disch:=first|omega|assumption)only[push_cast,simprocAttr,Zf,Ze,Zi,Zg,h3,h7,h8,h27,h28,h29,hg,Yf,ap_get,ap_set,cmp_ok,mix_ok,hge,ints_set,Int.ofNat_lt,hi0,hlt,stabG,stabS,Zv,Z5,Zu,Zp,Zs,Z3,Z4,Zt,Zq,Zn]|(with_reducible first|refine cB ?_ ?_|refine oB ?_ ?_|refine dB ?_ ?_)<;>intro _|with_reducible first|refine Zw ?_ ?_|refine Zx (by decide) ?_|refine Zy (by decide) ?_ ?_|exact Zz|refine Zr ?_|refine Zo ?_
    refine ih (pre++[s]) (el.set pre.length _) _ (by simp [hl]) (by simp [hi0]) (by simp [look,Za,h3]) (by simp [look,Za,h7]) (by simp [look,Za,h8]) (by simp [look,Za,h27]) (by simp [look,Za,h28]) (by simp [look,Za,h29])
theorem val_ok (t:Tri) (hv:vaF t=true) (hl:t.a.l.length≤1048576) (x y:Int) (h:Heap):∃ (o0:Option Ob) (L:List Int),L.length=t.a.l.length∧doCall E (callR E) 57 [.agg t.c,.int .i64 x,.int .i64 y] h=some (.sl (h.length,1) 1 0 t.a.l.length,h++[[o0,some (.mem (ints L) 1 true 1)]]):=by
  obtain ⟨d,e,hp⟩:=per_ex t x y
  obtain ⟨rr,H,hd,o0,L,h1,rfl,rfl⟩:∃ rr H,doCall E (callR E) 57 [.agg t.c,.int .i64 x,.int .i64 y] h=some (rr,H)∧∃ (o0:Option Ob) (L:List Int),L.length=t.a.l.length∧rr=.sl (h.length,1) 1 0 t.a.l.length∧H=h++[[o0,some (.mem (ints L) 1 true 1)]]:=by
    refine call_keep (pf:=p57) rfl rfl rfl rfl rfl ?_
    show kQ E _ (endK [⟨6,none⟩] _) .norm { lvl:=h.length,tmps:=mk 54 [(0,.agg t.c),(1,.int .i64 x),(2,.int .i64 y)],heap:=h++[[none,none]],defers:=[] }
    repeat' first|(with_reducible first|refine cS ?_ ?_|refine oS ?_ ?_|refine dS ?_ ?_)<;>intro _|((with_reducible refine kk ?_ ?_);·rfl)|simp -implicitDefEqProofs(disch:=first|omega|assumption)only[push_cast,simprocAttr,Zf,Ze,Zi,Zg,va_ok,hv,hp,ap_len,ap_get,ap_set,ap_gd,ints_rep]|(with_reducible first|refine cB ?_ ?_|refine oB ?_ ?_|refine dB ?_ ?_)<;>intro _
    refine val_loop t hl h d e rfl ?_ t.a.l [] _ _ rfl (by simp) (by simp [look,Za]) (by simp [look,Za]) (by simp [look,Za]) (by simp [look,Za]) (by simp [look,Za]) (by simp [look,Za])
    intro t' el h1 h8
    repeat' first|(with_reducible first|refine cS ?_ ?_|refine oS ?_ ?_|refine dS ?_ ?_)<;>intro _|((with_reducible refine kk ?_ ?_);·rfl)|simp -implicitDefEqProofs(disch:=first|omega|assumption)only[push_cast,simprocAttr,Zf,Ze,Zi,Zg,h8]|(with_reducible first|refine cB ?_ ?_|refine oB ?_ ?_|refine dB ?_ ?_)<;>intro _
    exact endK_ret (by simp [resultsE,mapO,rvE,h8];rfl) ⟨_,el,h1,rfl,rfl⟩
  exact ⟨o0,L,h1,hd⟩
end Go.VI.S
