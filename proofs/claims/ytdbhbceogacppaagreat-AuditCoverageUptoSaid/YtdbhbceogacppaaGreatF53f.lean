/- Chapter 53: masks, counts. -/
import Derived.Test.YtdbhbceogacppaaGreatF53e
set_option maxRecDepth 100000
set_option linter.unusedSimpArgs false
set_option linter.unusedVariables false
namespace Go.VI.S
open Go.VI
def orV (m:Int) (i:Nat):Int:=IntKind.i64.wrap ((BitVec.ofInt IntKind.i64.bits m ||| BitVec.ofInt IntKind.i64.bits (IntKind.i64.wrap (1*2 ^ min i IntKind.i64.bits))).toNat:Int)
theorem msk_loop (T:Tri) (x y n:Int) (N:Nat) (hN:N≤8):∀ (k i:Nat) (m:Int),i+k=N→∃ r:Int,(k=0→r=m)∧∀ {ks:List KI} {Q:PEx→Fr→Prop},
    (∀ t,look t 9=.int .i64 r→kQ E ks Q .norm { lvl:=0,tmps:=mk 41 t,heap:=[[]],defers:=[] }) →
    ∀ t,look t 1=.int .i64 x→look t 2=.int .i64 y→look t 3=.int .i64 n→look t 4=.ip T.c→look t 9=.int .i64 m→look t 15=.int .i64 N→look t 16=.int .i64 i →
    kQ E (.code p32l0::.blk 0::ks) Q .norm { lvl:=0,tmps:=mk 41 t,heap:=[[]],defers:=[] }:=by
  intro k
  induction k with
  | zero =>
    intro i m hi
    have hi:i=N:=by omega
    subst hi
    refine ⟨m,fun _=>rfl,?_⟩
    intro ks Q hn t h1 h2 h3 h4 h9 h15 h16
    refine loopK' (c:=p32l0) rfl ?_
    repeat' first|(with_reducible first|refine cS ?_ ?_|refine oS ?_ ?_|refine dS ?_ ?_)<;>intro _|((with_reducible refine kk ?_ ?_);·rfl)|simp -implicitDefEqProofs(disch:=first|omega|assumption)only[push_cast,simprocAttr,Zf,Ze,Zi,Zg,h1,h2,h3,h4,h9,h15,h16]|(with_reducible first|refine cB ?_ ?_|refine oB ?_ ?_|refine dB ?_ ?_)<;>intro _
    exact hn _ (by simp [look,Za,h9])
  | succ k ih =>
    intro i m hi
    obtain ⟨p,q,hs⟩:=sp_ex x y n i
    have hlt:(i:Int)<N:=by omega
    by_cases hp:p≥0
    · cases hc:covF T p q
      · obtain ⟨r,_,hr⟩:=ih (i+1) m (by omega)
        refine ⟨r,fun h=>by omega,?_⟩
        intro ks Q hn t h1 h2 h3 h4 h9 h15 h16
        refine loopK' (c:=p32l0) rfl ?_
        repeat' first|(with_reducible first|refine cS ?_ ?_|refine oS ?_ ?_|refine dS ?_ ?_)<;>intro _|((with_reducible refine kk ?_ ?_);·rfl)|simp -implicitDefEqProofs(disch:=first|omega|assumption)only[push_cast,simprocAttr,Zf,Ze,Zi,Zg,h1,h2,h3,h4,h9,h15,h16,hlt,hs,hp,cov_ok,hc]|(with_reducible first|refine cB ?_ ?_|refine oB ?_ ?_|refine dB ?_ ?_)<;>intro _
        exact hr hn _ (by simp [look,Za,h1]) (by simp [look,Za,h2]) (by simp [look,Za,h3]) (by simp [look,Za,h4]) (by simp [look,Za,h9]) (by simp [look,Za,h15]) (by simp [look,Za])
      · obtain ⟨r,_,hr⟩:=ih (i+1) (orV m i) (by omega)
        refine ⟨r,fun h=>by omega,?_⟩
        intro ks Q hn t h1 h2 h3 h4 h9 h15 h16
        refine loopK' (c:=p32l0) rfl ?_
        repeat' first|(with_reducible first|refine cS ?_ ?_|refine oS ?_ ?_|refine dS ?_ ?_)<;>intro _|((with_reducible refine kk ?_ ?_);·rfl)|simp -implicitDefEqProofs(disch:=first|omega|assumption)only[push_cast,simprocAttr,Zf,Ze,Zi,Zg,h1,h2,h3,h4,h9,h15,h16,hlt,hs,hp,cov_ok,hc]|(with_reducible first|refine cB ?_ ?_|refine oB ?_ ?_|refine dB ?_ ?_)<;>intro _
        exact hr hn _ (by simp [look,Za,h1]) (by simp [look,Za,h2]) (by simp [look,Za,h3]) (by simp [look,Za,h4]) (by simp [look,Za,orV]) (by simp [look,Za,h15]) (by simp [look,Za])
    · obtain ⟨r,_,hr⟩:=ih (i+1) m (by omega)
      refine ⟨r,fun h=>by omega,?_⟩
      intro ks Q hn t h1 h2 h3 h4 h9 h15 h16
      refine loopK' (c:=p32l0) rfl ?_
      repeat' first|(with_reducible first|refine cS ?_ ?_|refine oS ?_ ?_|refine dS ?_ ?_)<;>intro _|((with_reducible refine kk ?_ ?_);·rfl)|simp -implicitDefEqProofs(disch:=first|omega|assumption)only[push_cast,simprocAttr,Zf,Ze,Zi,Zg,h1,h2,h3,h4,h9,h15,h16,hlt,hs,hp]|(with_reducible first|refine cB ?_ ?_|refine oB ?_ ?_|refine dB ?_ ?_)<;>intro _
      exact hr hn _ (by simp [look,Za,h1]) (by simp [look,Za,h2]) (by simp [look,Za,h3]) (by simp [look,Za,h4]) (by simp [look,Za,h9]) (by simp [look,Za,h15]) (by simp [look,Za])
theorem msk_ex (t:Tri) (x y n:Int):∃ r:Int,(r≠0→n=1∨n=2∨n=4∨n=8)∧∀ h,doCall E (callR E) 32 [.agg t.c,.int .i64 x,.int .i64 y,.int .i64 n] h=some (.int .i64 r,h):=by
  obtain ⟨h1,h2⟩:=psL_len n
  obtain ⟨r,h0,hr⟩:=msk_loop t x y n _ h1 (psL n).length 0 0 (by omega)
  refine ⟨r,fun h=>h2 fun h'=>h (h0 h'),fun h=>?_⟩
  refine Zd (pf:=p32) rfl rfl rfl rfl (by simp [PV.lowL,PV.low]) (by simp [PV.low,PV.lowL]) ?_ h
  show kQ E _ (endQ [⟨8,none⟩] _) .norm { lvl:=0,tmps:=mk 41 [(0,.agg t.c),(1,.int .i64 x),(2,.int .i64 y),(3,.int .i64 n)],heap:=[[]],defers:=[] }
  repeat' first|(with_reducible first|refine cS ?_ ?_|refine oS ?_ ?_|refine dS ?_ ?_)<;>intro _|((with_reducible refine kk ?_ ?_);·rfl)|simp -implicitDefEqProofs(disch:=first|omega|assumption)only[push_cast,simprocAttr,Zf,Ze,Zi,Zg,pos_ok]|(with_reducible first|refine cB ?_ ?_|refine oB ?_ ?_|refine dB ?_ ?_)<;>intro _
  refine hr ?_ _ (by simp [look,Za]) (by simp [look,Za]) (by simp [look,Za]) (by simp [look,Za]) (by simp [look,Za]) (by simp [look,Za]) (by simp [look,Za])
  intro t' h9
  repeat' first|(with_reducible first|refine cS ?_ ?_|refine oS ?_ ?_|refine dS ?_ ?_)<;>intro _|((with_reducible refine kk ?_ ?_);·rfl)|simp -implicitDefEqProofs(disch:=first|omega|assumption)only[push_cast,simprocAttr,Zf,Ze,Zi,Zg,h9]|(with_reducible first|refine cB ?_ ?_|refine oB ?_ ?_|refine dB ?_ ?_)<;>intro _
noncomputable def mskF (t:Tri) (x y n:Int):Int:=(msk_ex t x y n).choose
theorem msk_n {t:Tri} {x y n:Int} (h:mskF t x y n≠0):n=1∨n=2∨n=4∨n=8:=(msk_ex t x y n).choose_spec.1 h
theorem msk_ok (t:Tri) (x y n:Int) (h:Heap):doCall E (callR E) 32 [.agg t.c,.int .i64 x,.int .i64 y,.int .i64 n] h=some (.int .i64 (mskF t x y n),h):=(msk_ex t x y n).choose_spec.2 h
theorem one_ex (k:Nat) (hk:k<256):∃ r:Int,0≤r∧r≤255∧∀ h,doCall E (callR E) 30 [.int .u8 k] h=some (.int .i64 r,h):=by
  have key:∀ s:List UInt8,s.length=256→∃ b:UInt8,s[k]?=some b:=fun s hs=>⟨s[k]'(by omega),List.getElem?_eq_getElem (by omega)⟩
  obtain ⟨b,hb⟩:=key [0,1,1,2,1,2,2,3,1,2,2,3,2,3,3,4,1,2,2,3,2,3,3,4,2,3,3,4,3,4,4,5,1,2,2,3,2,3,3,4,2,3,3,4,3,4,4,5,2,3,3,4,3,4,4,5,3,4,4,5,4,5,5,6,1,2,2,3,2,3,3,4,2,3,3,4,3,4,4,5,2,3,3,4,3,4,4,5,3,4,4,5,4,5,5,6,2,3,3,4,3,4,4,5,3,4,4,5,4,5,5,6,3,4,4,5,4,5,5,6,4,5,5,6,5,6,6,7,1,2,2,3,2,3,3,4,2,3,3,4,3,4,4,5,2,3,3,4,3,4,4,5,3,4,4,5,4,5,5,6,2,3,3,4,3,4,4,5,3,4,4,5,4,5,5,6,3,4,4,5,4,5,5,6,4,5,5,6,5,6,6,7,2,3,3,4,3,4,4,5,3,4,4,5,4,5,5,6,3,4,4,5,4,5,5,6,4,5,5,6,5,6,6,7,3,4,4,5,4,5,5,6,4,5,5,6,5,6,6,7,4,5,5,6,5,6,6,7,5,6,6,7,6,7,7,8] rfl
  have hb2:=b.toNat_lt
  refine ⟨b.toNat,by omega,by omega,fun h=>?_⟩
  refine Zd (pf:=p30) rfl rfl rfl rfl (by simp [PV.lowL,PV.low]) (by simp [PV.low,PV.lowL]) ?_ h
  show kQ E _ (endQ [⟨2,none⟩] _) .norm { lvl:=0,tmps:=mk 6 [(0,.int .u8 k)],heap:=[[]],defers:=[] }
  repeat' first|(with_reducible first|refine cS ?_ ?_|refine oS ?_ ?_|refine dS ?_ ?_)<;>intro _|((with_reducible refine kk ?_ ?_);·rfl)|simp -implicitDefEqProofs(disch:=first|omega|assumption)only[push_cast,simprocAttr,Zf,Ze,Zi,Zg,hb]|(with_reducible first|refine cB ?_ ?_|refine oB ?_ ?_|refine dB ?_ ?_)<;>intro _
theorem cnt_ex (m:Int):∃ r:Int,0≤r∧r≤255∧∀ h,doCall E (callR E) 18 [.int .i64 m] h=some (.int .i64 r,h):=by
  have hu:0≤IntKind.u8.wrap m∧IntKind.u8.wrap m<256:=by
    simp only [IntKind.wrap,IntKind.signed,IntKind.bits]
    simp
    omega
  obtain ⟨r,h1,h2,hr⟩:=one_ex (IntKind.u8.wrap m).toNat (by omega)
  refine ⟨r,h1,h2,fun h=>?_⟩
  rw [Int.toNat_of_nonneg hu.1] at hr
  refine Zd (pf:=p18) rfl rfl rfl rfl (by simp [PV.lowL,PV.low]) (by simp [PV.low,PV.lowL]) ?_ h
  show kQ E _ (endQ [⟨2,none⟩] _) .norm { lvl:=0,tmps:=mk 6 [(0,.int .i64 m)],heap:=[[]],defers:=[] }
  repeat' first|(with_reducible first|refine cS ?_ ?_|refine oS ?_ ?_|refine dS ?_ ?_)<;>intro _|((with_reducible refine kk ?_ ?_);·rfl)|simp -implicitDefEqProofs(disch:=first|omega|assumption)only[push_cast,simprocAttr,Zf,Ze,Zi,Zg,hr]|(with_reducible first|refine cB ?_ ?_|refine oB ?_ ?_|refine dB ?_ ?_)<;>intro _
noncomputable def cntF (m:Int):Int:=(cnt_ex m).choose
theorem cnt_bd (m:Int):0≤cntF m∧cntF m≤255:=⟨(cnt_ex m).choose_spec.1,(cnt_ex m).choose_spec.2.1⟩
theorem cnt_ok (m:Int) (h:Heap):doCall E (callR E) 18 [.int .i64 m] h=some (.int .i64 (cntF m),h):=(cnt_ex m).choose_spec.2.2 h
structure Frag where
  x:Int
  y:Int
  m:Int
  p:Int
  f:Bool
  ds:List Int
  vs:List Int
abbrev Frag.v (g:Frag):PV:=.agg [.int .i64 g.x,.int .i64 g.y,.int .i64 g.m,.int .i64 g.p,.bool g.f,.vs .any (ints g.ds),.vs .any (ints g.vs)]
def frs (l:List Frag):List PV:=l.map Frag.v
theorem frs_len {l:List Frag}:(frs l).length=l.length:=by simp [frs]
theorem frs_low {l:List Frag}:PV.lowL 0 (frs l)=true:=by
  induction l with
  | nil=>rfl
  | cons a l ih=>simpa [frs,PV.lowL,PV.low] using ih
attribute [push_cast] frs_len frs_low
noncomputable def smpF:List Int→Int
  | []=>0
  | m::r=>cntF m+smpF r
theorem smp_bd:∀ l:List Int,0≤smpF l∧smpF l≤255*l.length
  | []=>by simp [smpF]
  | m::r=>by
    have:=smp_bd r
    have:=cnt_bd m
    simp only [smpF,List.length_cons]
    omega
set_option maxHeartbeats 4000000 in
theorem smp_loop (F:List Frag) (hz:F.length≤100000) (fin:Int) {fl:Fl} {ks:List KI} {Q:PEx→Fr→Prop}
    (hn:∀ t o0,look t 3=.int .i64 fin→kQ E ks Q .norm { lvl:=0,tmps:=mk 19 t,heap:=[[o0]],defers:=[] }) :
    ∀ (rest pre:List Frag) (n:Int) (o0:Option Ob) (t:List (Nat × PV)),F=pre++rest→(n+smpF (rest.map Frag.m)=fin)→(0≤n)→(n≤255*pre.length) →
      look t 3=.int .i64 n→look t 6=.vs fl (frs F)→look t 7=.int .i64 F.length→look t 8=.int .i64 pre.length →
      kQ E (.code p9l0::.blk 0::ks) Q .norm { lvl:=0,tmps:=mk 19 t,heap:=[[o0]],defers:=[] }:=by
  intro rest
  induction rest with
  | nil =>
    intro pre n o0 t hl hi0 hi1 hi2 h3 h6 h7 h8
    have e:F.length=pre.length:=by rw [hl];simp
    refine loopK' (c:=p9l0) rfl ?_
    repeat' first|(with_reducible first|refine cS ?_ ?_|refine oS ?_ ?_|refine dS ?_ ?_)<;>intro _|((with_reducible refine kk ?_ ?_);·rfl)|simp -implicitDefEqProofs(disch:=first|omega|assumption)only[push_cast,simprocAttr,Zf,Ze,Zi,Zg,h3,h6,h7,h8,e,frs_len]|(with_reducible first|refine cB ?_ ?_|refine oB ?_ ?_|refine dB ?_ ?_)<;>intro _
    exact hn _ _ (by rw [← hi0];simp [look,Za,h3,smpF])
  | cons s r ih =>
    intro pre n o0 t hl hi0 hi1 hi2 h3 h6 h7 h8
    have e:F.length=pre.length+r.length+1:=by rw [hl];simp;omega
    have hg:(frs F)[pre.length]?=some (s.v):=by rw [hl];simp [frs]
    have hlt:(pre.length:Int)<F.length:=by omega
    have hb:=cnt_bd s.m
    simp only [List.map_cons,smpF] at hi0
    refine loopK' (c:=p9l0) rfl ?_
    repeat' first|(with_reducible first|refine cS ?_ ?_|refine oS ?_ ?_|refine dS ?_ ?_)<;>intro _|((with_reducible refine kk ?_ ?_);·rfl)|simp -implicitDefEqProofs(disch:=first|omega|assumption)only[push_cast,simprocAttr,Zf,Ze,Zi,Zg,h3,h6,h7,h8,hg,frs_len,cnt_ok,hlt]|(with_reducible first|refine cB ?_ ?_|refine oB ?_ ?_|refine dB ?_ ?_)<;>intro _
    refine ih (pre++[s]) (n+cntF s.m) _ _ (by simp [hl]) (by omega) (by omega) (by simp;omega) (by simp [look,Za,h3]) (by simp [look,Za,h6]) (by simp [look,Za,h7]) (by simp [look,Za,h8])
theorem smp_ok (f:Fl) (F:List Frag) (hz:F.length≤100000) (h:Heap):doCall E (callR E) 9 [.vs f (frs F)] h=some (.int .i64 (smpF (F.map Frag.m)),h):=by
  refine Zd (pf:=p9) rfl rfl rfl rfl (by simp [PV.lowL,PV.low]) (by simp [PV.low,PV.lowL]) ?_ h
  show kQ E _ (endQ [⟨2,none⟩] _) .norm { lvl:=0,tmps:=mk 19 [(0,.vs f (frs F))],heap:=[[none]],defers:=[] }
  repeat' first|(with_reducible first|refine cS ?_ ?_|refine oS ?_ ?_|refine dS ?_ ?_)<;>intro _|((with_reducible refine kk ?_ ?_);·rfl)|simp -implicitDefEqProofs(disch:=first|omega|assumption)only[push_cast,simprocAttr,Zf,Ze,Zi,Zg]|(with_reducible first|refine cB ?_ ?_|refine oB ?_ ?_|refine dB ?_ ?_)<;>intro _
  refine smp_loop F hz _ (fl:=f) ?_ F [] 0 _ _ rfl (Int.zero_add _) (Int.le_refl _) (by simp) (by simp [look,Za]) (by simp [look,Za]) (by simp [look,Za]) (by simp [look,Za])
  intro t' o0 h3
  repeat' first|(with_reducible first|refine cS ?_ ?_|refine oS ?_ ?_|refine dS ?_ ?_)<;>intro _|((with_reducible refine kk ?_ ?_);·rfl)|simp -implicitDefEqProofs(disch:=first|omega|assumption)only[push_cast,simprocAttr,Zf,Ze,Zi,Zg,h3]|(with_reducible first|refine cB ?_ ?_|refine oB ?_ ?_|refine dB ?_ ?_)<;>intro _
end Go.VI.S
