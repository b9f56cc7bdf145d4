/- Chapter 53: the fragments of a rectangle. -/
import Derived.Test.YtdbhbceogacppaaGreatF53g
set_option maxRecDepth 100000
set_option linter.unusedSimpArgs false
set_option linter.unusedVariables false
namespace Go.VI.S
open Go.VI
theorem dpt_loop (T:Tri) (X Y m:Int) (n:Nat) (h8:n≤8) (F:List Frag) (g g2 g3:Nat) {o1 o4:Option Ob} {v26:PV} {q:Nat} {v28:PV}:∀ (k i:Nat) (dl:List Int) {ks:List KI} {Q:PEx→Fr→Prop},i+k=n→dl.length=n →
    (∀ t (dl:List Int),dl.length=n→look t 5=.int .i64 n→look t 6=.ip T.c→look t 13=.sl (0,0) g 0 F.length→look t 16=.ptr (0,2) g2 0 0→look t 26=v26→look t 27=.int .i64 q→look t 28=v28→kQ E ks Q .norm { lvl:=0,tmps:=mk 90 t,heap:=[[some (.mem (frs F) g true 7),o1,some (.mem [.agg [.int .i64 X,.int .i64 Y,.int .i64 m,.int .i64 T.prim,.bool T.front,.sl (0,3) g3 0 n,.vs .nil []]] g2 false 7),some (.mem (ints dl) g3 true 1),o4]],defers:=[] }) →
    ∀ t,look t 5=.int .i64 n→look t 6=.ip T.c→look t 13=.sl (0,0) g 0 F.length→look t 16=.ptr (0,2) g2 0 0→look t 26=v26→look t 27=.int .i64 q→look t 28=v28→look t 48=.int .i64 n→look t 49=.int .i64 i →
    kQ E (.code p10l1::.blk 2::ks) Q .norm { lvl:=0,tmps:=mk 90 t,heap:=[[some (.mem (frs F) g true 7),o1,some (.mem [.agg [.int .i64 X,.int .i64 Y,.int .i64 m,.int .i64 T.prim,.bool T.front,.sl (0,3) g3 0 n,.vs .nil []]] g2 false 7),some (.mem (ints dl) g3 true 1),o4]],defers:=[] }:=by
  intro k
  induction k with
  | zero =>
    intro i dl ks Q hi hd hn t h5 h6 h13 h16 h26 h27 h28 h48 h49
    have hi:i=n:=by omega
    subst hi
    refine loopK' (c:=p10l1) rfl ?_
    repeat' first|(with_reducible first|refine cS ?_ ?_|refine oS ?_ ?_|refine dS ?_ ?_)<;>intro _|((with_reducible refine kk ?_ ?_);·rfl)|simp -implicitDefEqProofs(disch:=first|omega|assumption)only[push_cast,simprocAttr,Zf,Ze,Zi,Zg,h5,h6,h13,h16,h26,h27,h28,h48,h49]|(with_reducible first|refine cB ?_ ?_|refine oB ?_ ?_|refine dB ?_ ?_)<;>intro _
    refine hn _ _ hd ?_ ?_ ?_ ?_ ?_ ?_ ?_
    all_goals simp [look,Za, *]
  | succ k ih =>
    intro i dl ks Q hi hd hn t h5 h6 h13 h16 h26 h27 h28 h48 h49
    have hlt:(i:Int)<n:=by omega
    obtain ⟨p,r,hs⟩:=sp_ex X Y n i
    have hge:=ints_at (l:=dl) (i:=i) (by omega)
    refine loopK' (c:=p10l1) rfl ?_
    repeat' first|(with_reducible first|refine cS ?_ ?_|refine oS ?_ ?_|refine dS ?_ ?_)<;>intro _|((with_reducible refine kk ?_ ?_);·rfl)|simp -implicitDefEqProofs(disch:=first|omega|assumption)only[push_cast,simprocAttr,Zf,Ze,Zi,Zg,h5,h6,h13,h16,h26,h27,h28,h48,h49,hlt,hs,dep_ok,hge,ints_set,hd,Yf,stabG,stabS,Zv,Z5,Zu,Zp,Zs,Z3,Z4,Zt,Zq,Zn]|(with_reducible first|refine cB ?_ ?_|refine oB ?_ ?_|refine dB ?_ ?_)<;>intro _|with_reducible first|refine Zw ?_ ?_|refine Zx (by decide) ?_|refine Zy (by decide) ?_ ?_|exact Zz|refine Zr ?_|refine Zo ?_
    all_goals
      refine ih (i+1) _ (by omega) (by first|exact hd|simp [hd]) hn _ ?_ ?_ ?_ ?_ ?_ ?_ ?_ ?_ ?_
      all_goals simp [look,Za, *]
theorem frs_tk {l:List Frag}:(frs l).take l.length=frs l:=List.take_of_length_le (by simp [frs])
set_option maxHeartbeats 4000000 in
theorem gen_loop (T:Tri) (hv:vaF T=true) (hz:T.a.l.length≤1048576) (n:Nat) (h8:n≤8) (pl:List Pix) (hp:pl.length≤5000) {ks:List KI} {Q:PEx→Fr→Prop}
    (hn:∀ t F g o1 o2 o3 o4,F.map Frag.m=pl.map Pix.m→F.length≤5000→look t 13=.sl (0,0) g 0 F.length→kQ E ks Q .norm { lvl:=0,tmps:=mk 90 t,heap:=[[some (.mem (frs F) g true 7),o1,o2,o3,o4]],defers:=[] }) :
    ∀ (rest pre:List Pix) (F:List Frag) (g:Nat) (o1 o2 o3 o4:Option Ob) (t:List (Nat × PV)),pl=pre++rest→(F.map Frag.m=pre.map Pix.m)→(F.length=pre.length) →
      look t 5=.int .i64 n→look t 6=.ip T.c→look t 13=.sl (0,0) g 0 F.length→look t 26=.vs .any (pxs pl)→look t 27=.int .i64 pl.length→look t 28=.int .i64 pre.length →
      kQ E (.code p10l0::.blk 0::ks) Q .norm { lvl:=0,tmps:=mk 90 t,heap:=[[some (.mem (frs F) g true 7),o1,o2,o3,o4]],defers:=[] }:=by
  intro rest
  induction rest with
  | nil =>
    intro pre F g o1 o2 o3 o4 t hl hi0 hi1 h5 h6 h13 h26 h27 h28
    have e:pl.length=pre.length:=by rw [hl];simp
    refine loopK' (c:=p10l0) rfl ?_
    repeat' first|(with_reducible first|refine cS ?_ ?_|refine oS ?_ ?_|refine dS ?_ ?_)<;>intro _|((with_reducible refine kk ?_ ?_);·rfl)|simp -implicitDefEqProofs(disch:=first|omega|assumption)only[push_cast,simprocAttr,Zf,Ze,Zi,Zg,h5,h6,h13,h26,h27,h28,e,pxs_len]|(with_reducible first|refine cB ?_ ?_|refine oB ?_ ?_|refine dB ?_ ?_)<;>intro _
    exact hn _ _ _ _ _ _ _ (by rw [hi0,hl,List.append_nil]) (by omega) (by simp [look,Za,h13])
  | cons s r ih =>
    intro pre F g o1 o2 o3 o4 t hl hi0 hi1 h5 h6 h13 h26 h27 h28
    have e:pl.length=pre.length+r.length+1:=by rw [hl];simp;omega
    have hg:(pxs pl)[pre.length]?=some (s.v):=by rw [hl];simp [pxs]
    have hlt:(pre.length:Int)<pl.length:=by omega
    obtain ⟨A,hA⟩:=inp_ok T hv hz s.x s.y
    have hc:0≤n∧n≤n:=⟨by omega,by omega⟩
    refine loopK' (c:=p10l0) rfl ?_
    repeat' first|(with_reducible first|refine cS ?_ ?_|refine oS ?_ ?_|refine dS ?_ ?_)<;>intro _|((with_reducible refine kk ?_ ?_);·rfl)|simp -implicitDefEqProofs(disch:=first|omega|assumption)only[push_cast,simprocAttr,Zf,Ze,Zi,Zg,h5,h6,h13,h26,h27,h28,hg,pxs_len,hlt,ints_rep]|(with_reducible first|refine cB ?_ ?_|refine oB ?_ ?_|refine dB ?_ ?_)<;>intro _
    refine dpt_loop T s.x s.y s.m n h8 F g _ _ (v26:=.vs .any (pxs pl)) (q:=pl.length) (v28:=.int .i64 pre.length) n 0 (List.replicate n 0) (by omega) (by simp) ?_ _ ?_ ?_ ?_ ?_ ?_ ?_ ?_ ?_ ?_
    rotate_left
    all_goals first
      | (simp [look,Za, *];done)
      | skip
    intro t' dl hd k5 k6 k13 k16 k26 k27 k28
    have hdt:(ints dl).take n=ints dl:=List.take_of_length_le (by rw [Yf];omega)
    repeat' first|(with_reducible first|refine cS ?_ ?_|refine oS ?_ ?_|refine dS ?_ ?_)<;>intro _|((with_reducible refine kk ?_ ?_);·rfl)|simp -implicitDefEqProofs(disch:=first|omega|assumption)only[push_cast,simprocAttr,Zf,Ze,Zi,Zg,k5,k6,k13,k16,k26,k27,k28,hA,frzD,frzL,frzV,loadE,hd,hdt,frs_tk]|(with_reducible first|refine cB ?_ ?_|refine oB ?_ ?_|refine dB ?_ ?_)<;>intro _
    rw [show frs F++[PV.agg [.int .i64 s.x,.int .i64 s.y,.int .i64 s.m,.int .i64 T.prim,.bool T.front,.vs .any (ints dl),.vs .any (ints A)]]=frs (F++[⟨s.x,s.y,s.m,T.prim,T.front,dl,A⟩]) from by simp [frs]]
    refine ih (pre++[s]) (F++[⟨s.x,s.y,s.m,T.prim,T.front,dl,A⟩]) (g+1) _ _ _ _ _ (by simp [hl]) (by simp [hi0]) (by simp [hi1]) ?_ ?_ ?_ ?_ ?_ ?_
    all_goals simp [look,Za, *]
def endY (rs:List RV) (P:PV→Prop):PEx→Fr→Prop:=fun ex fr=>(match ex with|.exit _=>False|_=>True)∧fr.defers=[]∧∃ r,resultsE fr.heap fr.tmps rs=some r∧r.low 0=true∧P r
theorem call_pureY {f:Nat} {pf:PFn} {args:List PV} {c:PC} {P:PV→Prop} (hpf:E.pf f=some pf) (hp:pf.pure=true) (hb:pf.body=.cln (List.range args.length) c) (hn:args.length=pf.nparams) (hlow:PV.lowL 0 args=true)
    (hw:kQ E [.code c] (endY pf.results P) .norm { lvl:=0,tmps:=mk (args.length+(pf.ntmps - pf.nparams)) (enum 0 args),heap:=[List.replicate pf.nobjs none],defers:=[] }) (he:pf.ext=none:=by rfl) :
    ∃ r,P r∧∀ h,doCall E (callR E) f args h=some (r,h):=by
  have hw':kQ E [.code pf.body] (endY pf.results P) .norm { lvl:=0,tmps:=args++List.replicate (pf.ntmps - pf.nparams) (.tuple []),heap:=[]++[List.replicate pf.nobjs none],defers:=[] }:=by
    rw [hb,K_cln]
    simp only [start_eq]
    exact hw
  obtain ⟨ex,fr,h1,hex,hd,r,hres,hr,hP⟩:=Yc (wpE_of hw')
  have hcall:Evt fun k=>callN E k f args []=some (r,fr.heap):=by
    refine .succ ((h1.and (defN_marks (E:=E) fr.defers fr.heap (by rw [hd];rfl))).mono fun k hk=>?_)
    simp only [callN,hpf,he,hn,if_true,List.length_nil]
    rw [hk.1]
    cases ex with
    | exit id=>exact hex.elim
    | norm=>simp only [hk.2,hres]
    | ret=>simp only [hk.2,hres]
  have hpop:pop 0 r fr.heap=some (r,[]):=by
    unfold pop
    have:snap fr.heap 0 4 r=some r:=by simp [snap,hr]
    simp [this,heapLow]
  exact ⟨r,hP,fun h=>by simp [doCall,hpf,hp,hlow,callR_of hcall,hpop]⟩
theorem row_nil {M:Nat→Nat→Int} (hM:∀ x y,M x y=0) (y:Nat):∀ k x,rowL M y k x=[]
  | 0,_=>rfl
  | k+1,x=>by rw [rowL,if_neg (by simp [hM]),row_nil hM y k];rfl
theorem rec_nil {M:Nat→Nat→Int} (hM:∀ x y,M x y=0) (x w:Nat):∀ k y,recL M x w k y=[]
  | 0,_=>rfl
  | k+1,y=>by rw [recL,row_nil hM,rec_nil hM x w k];rfl
theorem gen_ok (t:Tri) (hv:vaF t=true) (hz:t.a.l.length≤1048576) (x y w h:Nat) (m:Int) (h0:0<w) (h1:x+w≤64) (h2:0<h) (h3:y+h≤64):∃ F:List Frag,F.length≤5000∧F.map Frag.m=(recL (fun x y=>mskF t x y m) x w h y).map Pix.m∧∀ H,doCall E (callR E) 10 [.agg t.c,.int .i64 x,.int .i64 y,.int .i64 w,.int .i64 h,.int .i64 m] H=some (.vs .any (frs F),H):=by
  have q:=pix_ok t x y w h 0 m h0 h1 h2 h3
  have hlen:=rec_len (fun x y=>mskF t x y m) x w h y
  obtain ⟨r,⟨F,rfl,hF1,hF2⟩,hr⟩:∃ r,(∃ F:List Frag,r=.vs .any (frs F)∧F.length≤5000∧F.map Frag.m=(recL (fun x y=>mskF t x y m) x w h y).map Pix.m)∧∀ H,doCall E (callR E) 10 [.agg t.c,.int .i64 x,.int .i64 y,.int .i64 w,.int .i64 h,.int .i64 m] H=some (r,H):=by
    refine call_pureY (pf:=p10) rfl rfl rfl rfl (by simp [PV.lowL,PV.low]) ?_
    show kQ E _ (endY [⟨12,none⟩] _) .norm { lvl:=0,tmps:=mk 90 [(0,.agg t.c),(1,.int .i64 x),(2,.int .i64 y),(3,.int .i64 w),(4,.int .i64 h),(5,.int .i64 m)],heap:=[[none,none,none,none,none]],defers:=[] }
    repeat' first|(with_reducible first|refine cS ?_ ?_|refine oS ?_ ?_|refine dS ?_ ?_)<;>intro _|((with_reducible refine kk ?_ ?_);·rfl)|simp -implicitDefEqProofs(disch:=first|omega|assumption)only[push_cast,simprocAttr,Zf,Ze,Zi,Zg,q]|(with_reducible first|refine cB ?_ ?_|refine oB ?_ ?_|refine dB ?_ ?_)<;>intro _
    have hmg:∀ l:List (Nat × PV),(mk 90 l).getD 12 .junk=look l 12:=fun l=>by rw [mk_get];rfl
    by_cases hm:m=1∨m=2∨m=4∨m=8
    · obtain ⟨n,rfl,h8⟩:∃ n:Nat,m=n∧n≤8:=⟨m.toNat,by omega,by omega⟩
      have hle:=Nat.mul_le_mul (show w≤64 by omega) (show h≤64 by omega)
      generalize hpl:recL (fun x y=>mskF t x y n) x w h y=pl at hlen ⊢
      refine gen_loop t hv hz n h8 pl (by omega) ?_ pl [] [] 1 none none none none _ rfl rfl rfl (by simp [look,Za]) (by simp [look,Za]) (by simp [look,Za]) (by simp [look,Za]) (by simp [look,Za]) (by simp [look,Za])
      intro t' F g o1 o2 o3 o4 hF hl5 h13
      repeat' first|(with_reducible first|refine cS ?_ ?_|refine oS ?_ ?_|refine dS ?_ ?_)<;>intro _|((with_reducible refine kk ?_ ?_);·rfl)|simp -implicitDefEqProofs(disch:=first|omega|assumption)only[push_cast,simprocAttr,Zf,Ze,Zi,Zg,h13,frs_tk]|(with_reducible first|refine cB ?_ ?_|refine oB ?_ ?_|refine dB ?_ ?_)<;>intro _
      exact ⟨trivial,rfl,.vs .any (frs F),by simp [-List.getD_eq_getElem?_getD,resultsE,mapO,rvE,look,hmg],by simp [PV.low,frs_low],F,rfl,hl5,hF⟩
    · have hM:∀ x y:Nat,(fun x y:Nat=>mskF t x y m) x y=0:=fun x y=>Decidable.byContradiction fun h=>hm (msk_n h)
      rw [rec_nil hM]
      refine loopK' (c:=p10l0) rfl ?_
      repeat' first|(with_reducible first|refine cS ?_ ?_|refine oS ?_ ?_|refine dS ?_ ?_)<;>intro _|((with_reducible refine kk ?_ ?_);·rfl)|simp -implicitDefEqProofs(disch:=first|omega|assumption)only[push_cast,simprocAttr,Zf,Ze,Zi,Zg,pxs,List.map_nil]|(with_reducible first|refine cB ?_ ?_|refine oB ?_ ?_|refine dB ?_ ?_)<;>intro _
      exact ⟨trivial,rfl,.vs .any (frs []),by simp [-List.getD_eq_getElem?_getD,resultsE,mapO,rvE,look,hmg,frs],rfl,[],rfl,by simp,rfl⟩
  exact ⟨F,hF1,hF2,hr⟩
end Go.VI.S
