/- Chapter 53: Coverage. -/
import Derived.Test.YtdbhbceogacppaaGreatF53i
import Derived.Test.YtdbhbceogacppaaGreatX53
set_option maxRecDepth 100000
set_option linter.unusedSimpArgs false
set_option linter.unusedVariables false
namespace Go.VI.S
open Go.VI
theorem smp_app:∀ a b:List Int,smpF (a++b)=smpF a+smpF b
  | [],b=>by simp [smpF]
  | x::a,b=>by simp only [List.cons_append,smpF,smp_app a b];omega
noncomputable def pxG (M:Nat→Nat→Int) (x y:Nat):Int:=if M x y≠0 then cntF (M x y) else 0
theorem sm_cons (f:Nat→Int) (k:Nat):sm f (k+1)=f 0+sm (fun i=>f (i+1)) k:=by
  rw [Nat.add_comm,sm_add f 1 k]
  simp only [sm,Int.zero_add]
  congr 1
  exact sm_congr fun i _=>by rw [Nat.add_comm]
theorem row_sm (M:Nat→Nat→Int) (y:Nat):∀ k x,smpF ((rowL M y k x).map Pix.m)=sm (fun i=>pxG M (x+i) y) k
  | 0,_=>rfl
  | k+1,x=>by
    rw [rowL,List.map_append,smp_app,row_sm M y k,sm_cons]
    congr 1
    · unfold pxG
      rw [Nat.add_zero]
      split<;>simp [smpF]
    · exact sm_congr fun i _=>by rw [Nat.add_assoc,Nat.add_comm 1]
theorem rec_sm (M:Nat→Nat→Int) (x w:Nat):∀ k y,smpF ((recL M x w k y).map Pix.m)=smR (pxG M) x y w k
  | 0,_=>rfl
  | k+1,y=>by
    rw [recL,List.map_append,smp_app,row_sm,rec_sm M x w k]
    unfold smR
    rw [sm_cons]
    congr 1
    exact sm_congr fun j _=>by rw [Nat.add_assoc,Nat.add_comm 1]
theorem area_smp (t:Tri) (hv:vaF t=true) (hz:t.a.l.length≤1048576) (x y w v:Nat) (m:Int) (h0:0<w) (h1:x+w≤64) (h2:0<v) (h3:y+v≤64):∃ f:PV,(∀ h,doCall E (callR E) 10 [.agg t.c,.int .i64 x,.int .i64 y,.int .i64 w,.int .i64 v,.int .i64 m] h=some (f,h))∧(∀ h,doCall E (callR E) 9 [f] h=some (.int .i64 (smR (pxG fun x y=>mskF t x y m) x y w v),h))∧0≤smR (pxG fun x y=>mskF t x y m) x y w v∧smR (pxG fun x y=>mskF t x y m) x y w v≤255*(w*v:Nat):=by
  obtain ⟨F,hl,hF,hr⟩:=gen_ok t hv hz x y w v m h0 h1 h2 h3
  have hb:=smp_bd ((recL (fun x y=>mskF t x y m) x w v y).map Pix.m)
  have hn:=rec_len (fun x y=>mskF t x y m) x w v y
  rw [rec_sm,List.length_map] at hb
  refine ⟨_,hr,fun h=>?_,hb.1,by omega⟩
  rw [smp_ok .any F (by omega) h,hF,rec_sm]
theorem cov_loop (T:Tri) (hv:vaF T=true) (hz:T.a.l.length≤1048576) (w v:Nat) (m:Int) (w0:1≤w) (w1:w≤64) (h0:1≤v) (h1:v≤64) (S:Nat→Int) (hS:S=fun t=>smR (pxG fun x y=>mskF T x y m) (8*(t % ((w+7) / 8))) (8*(t / ((w+7) / 8))) (min 8 (w - 8*(t % ((w+7) / 8)))) (min 8 (v - 8*(t / ((w+7) / 8))))) (N:Nat) (hN:N=(w+7) / 8*((v+7) / 8)) (hN2:N≤64) {ks:List KI} {Q:PEx→Fr→Prop}
    (hn:∀ t,look t 1=.int .i64 w→look t 2=.int .i64 v→look t 3=.int .i64 m→look t 4=.ip T.c→look t 10=.int .i64 (sm S N)→kQ E ks Q .norm { lvl:=0,tmps:=mk 58 t,heap:=[[]],defers:=[] }) :
    ∀ (k i:Nat),i+k=N→0≤sm S i→sm S i≤16320*i→∀ t,look t 1=.int .i64 w→look t 2=.int .i64 v→look t 3=.int .i64 m→look t 4=.ip T.c→look t 10=.int .i64 (sm S i)→look t 26=.int .i64 N→look t 27=.int .i64 i →
    kQ E (.code p4l0::.blk 0::ks) Q .norm { lvl:=0,tmps:=mk 58 t,heap:=[[]],defers:=[] }:=by
  intro k
  induction k with
  | zero =>
    intro i hi b0 b1 t h1 h2 h3 h4 h10 h26 h27
    have hi:i=N:=by omega
    subst hi
    refine loopK' (c:=p4l0) rfl ?_
    repeat' first|(with_reducible first|refine cS ?_ ?_|refine oS ?_ ?_|refine dS ?_ ?_)<;>intro _|((with_reducible refine kk ?_ ?_);·rfl)|simp -implicitDefEqProofs(disch:=first|omega|assumption)only[push_cast,simprocAttr,Zf,Ze,Zi,Zg,h1,h2,h3,h4,h10,h26,h27]|(with_reducible first|refine cB ?_ ?_|refine oB ?_ ?_|refine dB ?_ ?_)<;>intro _
    refine hn _ ?_ ?_ ?_ ?_ ?_
    all_goals simp [look,Za, *]
  | succ k ih =>
    intro i hi b0 b1 t k1 k2 k3 k4 k10 k26 k27
    have hlt:(i:Int)<N:=by omega
    have hk:i<(w+7) / 8*((v+7) / 8):=by omega
    have hdiv:i / ((w+7) / 8)<(v+7) / 8:=Nat.div_lt_of_lt_mul hk
    have hmod:i % ((w+7) / 8)<(w+7) / 8:=Nat.mod_lt _ (by omega)
    have q:=rect_ok w v i w0 w1 h0 h1 hk
    obtain ⟨f,q1,q2,q3,q4⟩:=area_smp T hv hz (8*(i % ((w+7) / 8))) (8*(i / ((w+7) / 8))) (min 8 (w - 8*(i % ((w+7) / 8)))) (min 8 (v - 8*(i / ((w+7) / 8)))) m (by omega) (by omega) (by omega) (by omega)
    have hle:min 8 (w - 8*(i % ((w+7) / 8)))*min 8 (v - 8*(i / ((w+7) / 8)))≤8*8:=Nat.mul_le_mul (Nat.min_le_left _ _) (Nat.min_le_left _ _)
    have hSi:S i=smR (pxG fun x y=>mskF T x y m) (8*(i % ((w+7) / 8))) (8*(i / ((w+7) / 8))) (min 8 (w - 8*(i % ((w+7) / 8)))) (min 8 (v - 8*(i / ((w+7) / 8)))):=by rw [hS]
    rw [← hSi] at q2 q3 q4
    have b2:0≤sm S (i+1):=by simp only [sm];omega
    have b3:sm S (i+1)≤16320*((i+1:Nat):Int):=by simp only [sm];omega
    have hsm:sm S i+S i=sm S (i+1):=rfl
    have q5:S i≤16320:=by omega
    clear hSi hle hdiv hmod q4
    generalize 8*(i % ((w+7) / 8))=x at q q1
    generalize 8*(i / ((w+7) / 8))=y at q q1
    generalize min 8 (w - 8*(i % ((w+7) / 8)))=w' at q q1
    generalize min 8 (v - 8*(i / ((w+7) / 8)))=v' at q q1
    refine loopK' (c:=p4l0) rfl ?_
    repeat' first|(with_reducible first|refine cS ?_ ?_|refine oS ?_ ?_|refine dS ?_ ?_)<;>intro _|((with_reducible refine kk ?_ ?_);·rfl)|simp -implicitDefEqProofs(disch:=first|omega|assumption)only[push_cast,simprocAttr,Zf,Ze,Zi,Zg,k1,k2,k3,k4,k10,k26,k27,hlt,q,q1,q2,hsm]|(with_reducible first|refine cB ?_ ?_|refine oB ?_ ?_|refine dB ?_ ?_)<;>intro _
    refine ih (i+1) (by omega) b2 b3 _ ?_ ?_ ?_ ?_ ?_ ?_ ?_
    all_goals simp [look,Za, *]
theorem cover_ok (t:Tri) (hz:t.a.l.length≤1048576) (w v m:Int) (h:Heap):doCall E (callR E) 4 [.agg t.c,.int .i64 w,.int .i64 v,.int .i64 m] h=some (.bool true,h):=by
  cases hb:imgB w v
  · have q:=tiles_no w v hb
    refine Zd (pf:=p4) rfl rfl rfl rfl (by simp [PV.lowL,PV.low]) (by simp [PV.low,PV.lowL]) ?_ h
    show kQ E _ (endQ [⟨8,none⟩] _) .norm { lvl:=0,tmps:=mk 58 [(0,.agg t.c),(1,.int .i64 w),(2,.int .i64 v),(3,.int .i64 m)],heap:=[[]],defers:=[] }
    repeat' first|(with_reducible first|refine cS ?_ ?_|refine oS ?_ ?_|refine dS ?_ ?_)<;>intro _|((with_reducible refine kk ?_ ?_);·rfl)|simp -implicitDefEqProofs(disch:=first|omega|assumption)only[push_cast,simprocAttr,Zf,Ze,Zi,Zg,q]|(with_reducible first|refine cB ?_ ?_|refine oB ?_ ?_|refine dB ?_ ?_)<;>intro _
  simp only [imgB,decide_eq_true_eq] at hb
  obtain ⟨W,rfl⟩:∃ W:Nat,w=W:=⟨w.toNat,by omega⟩
  obtain ⟨V,rfl⟩:∃ V:Nat,v=V:=⟨v.toNat,by omega⟩
  have q:=tiles_ok W V (by omega) (by omega) (by omega) (by omega)
  have hN0:0<(W+7) / 8*((V+7) / 8):=Nat.mul_pos (by omega) (by omega)
  have hN1:(W+7) / 8*((V+7) / 8)≤8*8:=Nat.mul_le_mul (by omega) (by omega)
  have ht:=sm_tiles (pxG fun x y=>mskF t x y m) (W:=W) (H:=V) (by omega)
  generalize hN:(W+7) / 8*((V+7) / 8)=N at q hN0 hN1 ht
  have c0:¬ (N:Int)=0:=by omega
  cases hv:vaF t
  · have:=hv
    refine Zd (pf:=p4) rfl rfl rfl rfl (by simp [PV.lowL,PV.low]) (by simp [PV.low,PV.lowL]) ?_ h
    show kQ E _ (endQ [⟨8,none⟩] _) .norm { lvl:=0,tmps:=mk 58 [(0,.agg t.c),(1,.int .i64 W),(2,.int .i64 V),(3,.int .i64 m)],heap:=[[]],defers:=[] }
    repeat' first|(with_reducible first|refine cS ?_ ?_|refine oS ?_ ?_|refine dS ?_ ?_)<;>intro _|((with_reducible refine kk ?_ ?_);·rfl)|simp -implicitDefEqProofs(disch:=first|omega|assumption)only[push_cast,simprocAttr,Zf,Ze,Zi,Zg,q,c0,va_ok,hv]|(with_reducible first|refine cB ?_ ?_|refine oB ?_ ?_|refine dB ?_ ?_)<;>intro _
  · obtain ⟨f,q1,q2,_,_⟩:=area_smp t hv hz 0 0 W V m (by omega) (by omega) (by omega) (by omega)
    rw [← ht] at q2
    rw [show ((0:Nat):Int)=0 from rfl] at q1
    refine Zd (pf:=p4) rfl rfl rfl rfl (by simp [PV.lowL,PV.low]) (by simp [PV.low,PV.lowL]) ?_ h
    show kQ E _ (endQ [⟨8,none⟩] _) .norm { lvl:=0,tmps:=mk 58 [(0,.agg t.c),(1,.int .i64 W),(2,.int .i64 V),(3,.int .i64 m)],heap:=[[]],defers:=[] }
    repeat' first|(with_reducible first|refine cS ?_ ?_|refine oS ?_ ?_|refine dS ?_ ?_)<;>intro _|((with_reducible refine kk ?_ ?_);·rfl)|simp -implicitDefEqProofs(disch:=first|omega|assumption)only[push_cast,simprocAttr,Zf,Ze,Zi,Zg,q,c0,va_ok,hv]|(with_reducible first|refine cB ?_ ?_|refine oB ?_ ?_|refine dB ?_ ?_)<;>intro _
    refine cov_loop t hv hz W V m (by omega) (by omega) (by omega) (by omega) _ rfl N hN.symm (by omega) ?_ N 0 (by omega) (Int.le_refl _) (Int.le_refl _) _ ?_ ?_ ?_ ?_ ?_ ?_ ?_
    rotate_left
    all_goals first
      | (simp [look,Za,sm];done)
      | skip
    intro t' k1 k2 k3 k4 k10
    repeat' first|(with_reducible first|refine cS ?_ ?_|refine oS ?_ ?_|refine dS ?_ ?_)<;>intro _|((with_reducible refine kk ?_ ?_);·rfl)|simp -implicitDefEqProofs(disch:=first|omega|assumption)only[push_cast,simprocAttr,Zf,Ze,Zi,Zg,k1,k2,k3,k4,k10,q1,q2]|(with_reducible first|refine cB ?_ ?_|refine oB ?_ ?_|refine dB ?_ ?_)<;>intro _
theorem law3 (t:Tri) (hz:t.a.l.length≤1048576) (w v m:Int) (h:Heap):doCall E (callR E) 3 [.agg t.c,.agg [.int .i64 w,.int .i64 v,.int .i64 m]] h=some (.bool true,h):=by
  have q:=cover_ok t hz w v m
  have q2:=ex_ok
  refine Zd (pf:=p3) rfl rfl rfl rfl (by simp [PV.lowL,PV.low]) (by simp [PV.low,PV.lowL]) ?_ h
  show kQ E _ (endQ [⟨4,none⟩] _) .norm { lvl:=0,tmps:=mk 16 [(0,.agg t.c),(1,.agg [.int .i64 w,.int .i64 v,.int .i64 m])],heap:=[[]],defers:=[] }
  repeat' first|(with_reducible first|refine cS ?_ ?_|refine oS ?_ ?_|refine dS ?_ ?_)<;>intro _|((with_reducible refine kk ?_ ?_);·rfl)|simp -implicitDefEqProofs(disch:=first|omega|assumption)only[push_cast,simprocAttr,Zf,Ze,Zi,Zg,q,q2]|(with_reducible first|refine cB ?_ ?_|refine oB ?_ ?_|refine dB ?_ ?_)<;>intro _
end Go.VI.S
