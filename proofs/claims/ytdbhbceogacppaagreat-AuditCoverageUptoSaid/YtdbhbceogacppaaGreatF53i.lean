/- Chapter 53: tiles. -/
import Derived.Test.YtdbhbceogacppaaGreatF53h
import Derived.Test.YtdbhbceogacppaaGreatF53p
set_option maxRecDepth 100000
set_option linter.unusedSimpArgs false
set_option linter.unusedVariables false
namespace Go.VI.S
open Go.VI
def imgB (w v:Int):Bool:=decide (1≤w∧w≤64∧1≤v∧v≤64)
theorem grid_no (w v:Int) (hb:imgB w v=false) (h:Heap):doCall E (callR E) 15 [.int .i64 w,.int .i64 v] h=some (.tuple [.int .i64 0,.int .i64 0],h):=by
  refine Zd (pf:=p15) rfl rfl rfl rfl (by simp [PV.lowL,PV.low]) (by simp [PV.low,PV.lowL]) ?_ h
  show kQ E _ (endQ [⟨4,none⟩,⟨5,none⟩] _) .norm { lvl:=0,tmps:=mk 28 [(0,.int .i64 w),(1,.int .i64 v)],heap:=[[]],defers:=[] }
  repeat' first|(with_reducible first|refine cS ?_ ?_|refine oS ?_ ?_|refine dS ?_ ?_)<;>intro _|((with_reducible refine kk ?_ ?_);·rfl)|simp -implicitDefEqProofs(disch:=first|omega|assumption)only[push_cast,simprocAttr,Zf,Ze,Zi,Zg]|(with_reducible first|refine cB ?_ ?_|refine oB ?_ ?_|refine dB ?_ ?_)<;>intro _
  all_goals
    exfalso
    simp only [imgB,decide_eq_false_iff_not] at hb
    omega
theorem grid_ok (w v:Nat) (w0:1≤w) (w1:w≤64) (h0:1≤v) (h1:v≤64) (h:Heap):doCall E (callR E) 15 [.int .i64 w,.int .i64 v] h=some (.tuple [.int .i64 (((w+7) / 8:Nat):Int),.int .i64 (((v+7) / 8:Nat):Int)],h):=by
  have c1:¬ (w:Int)<1:=by omega
  have c2:¬ (w:Int)>64:=by omega
  have c3:¬ (v:Int)<1:=by omega
  have c4:¬ (v:Int)>64:=by omega
  have e1:((w:Int)+8 - 1).tdiv 8=(((w+7) / 8:Nat):Int):=by rw [Int.tdiv_eq_ediv_of_nonneg (by omega)];omega
  have e2:((v:Int)+8 - 1).tdiv 8=(((v+7) / 8:Nat):Int):=by rw [Int.tdiv_eq_ediv_of_nonneg (by omega)];omega
  refine Zd (pf:=p15) rfl rfl rfl rfl (by simp [PV.lowL,PV.low]) (by simp [PV.low,PV.lowL]) ?_ h
  show kQ E _ (endQ [⟨4,none⟩,⟨5,none⟩] _) .norm { lvl:=0,tmps:=mk 28 [(0,.int .i64 w),(1,.int .i64 v)],heap:=[[]],defers:=[] }
  repeat' first|(with_reducible first|refine cS ?_ ?_|refine oS ?_ ?_|refine dS ?_ ?_)<;>intro _|((with_reducible refine kk ?_ ?_);·rfl)|simp -implicitDefEqProofs(disch:=first|omega|assumption)only[push_cast,simprocAttr,Zf,Ze,Zi,Zg,c1,c2,c3,c4,e1,e2]|(with_reducible first|refine cB ?_ ?_|refine oB ?_ ?_|refine dB ?_ ?_)<;>intro _
theorem tiles_no (w v:Int) (hb:imgB w v=false) (h:Heap):doCall E (callR E) 6 [.int .i64 w,.int .i64 v] h=some (.int .i64 0,h):=by
  have q:=grid_no w v hb
  refine Zd (pf:=p6) rfl rfl rfl rfl (by simp [PV.lowL,PV.low]) (by simp [PV.low,PV.lowL]) ?_ h
  show kQ E _ (endQ [⟨4,none⟩] _) .norm { lvl:=0,tmps:=mk 16 [(0,.int .i64 w),(1,.int .i64 v)],heap:=[[]],defers:=[] }
  repeat' first|(with_reducible first|refine cS ?_ ?_|refine oS ?_ ?_|refine dS ?_ ?_)<;>intro _|((with_reducible refine kk ?_ ?_);·rfl)|simp -implicitDefEqProofs(disch:=first|omega|assumption)only[push_cast,simprocAttr,Zf,Ze,Zi,Zg,q]|(with_reducible first|refine cB ?_ ?_|refine oB ?_ ?_|refine dB ?_ ?_)<;>intro _
theorem tiles_g (w v c d p:Int) (q:∀ h,doCall E (callR E) 15 [.int .i64 w,.int .i64 v] h=some (.tuple [.int .i64 c,.int .i64 d],h)) (hp:c*d=p) (h0:0≤p∧p≤64) (h:Heap):doCall E (callR E) 6 [.int .i64 w,.int .i64 v] h=some (.int .i64 p,h):=by
  refine Zd (pf:=p6) rfl rfl rfl rfl (by simp [PV.lowL,PV.low]) (by simp [PV.low,PV.lowL]) ?_ h
  show kQ E _ (endQ [⟨4,none⟩] _) .norm { lvl:=0,tmps:=mk 16 [(0,.int .i64 w),(1,.int .i64 v)],heap:=[[]],defers:=[] }
  repeat' first|(with_reducible first|refine cS ?_ ?_|refine oS ?_ ?_|refine dS ?_ ?_)<;>intro _|((with_reducible refine kk ?_ ?_);·rfl)|simp -implicitDefEqProofs(disch:=first|omega|assumption)only[push_cast,simprocAttr,Zf,Ze,Zi,Zg,q,hp]|(with_reducible first|refine cB ?_ ?_|refine oB ?_ ?_|refine dB ?_ ?_)<;>intro _
theorem tiles_ok (w v:Nat) (w0:1≤w) (w1:w≤64) (h0:1≤v) (h1:v≤64) (h:Heap):doCall E (callR E) 6 [.int .i64 w,.int .i64 v] h=some (.int .i64 (((w+7) / 8*((v+7) / 8):Nat):Int),h):=by
  have hle:(w+7) / 8*((v+7) / 8)≤8*8:=Nat.mul_le_mul (by omega) (by omega)
  exact tiles_g _ _ _ _ _ (grid_ok w v w0 w1 h0 h1) (Int.natCast_mul _ _).symm ⟨by omega,by omega⟩ h
theorem rect_g (w v k c d p a b x y:Int) (q:∀ h,doCall E (callR E) 15 [.int .i64 w,.int .i64 v] h=some (.tuple [.int .i64 c,.int .i64 d],h)) (hp:c*d=p) (h0:0≤p∧p≤64) (hk:0≤k∧k<p) (hc:¬ c=0) (ha:k.tmod c=a) (hb:k.tdiv c=b) (ha1:0≤a∧a≤8) (hb1:0≤b∧b≤8) (hw:1≤w∧w≤64) (hv:1≤v∧v≤64)
    (hx:(if w - a*8<8 then w - a*8 else 8)=x) (hy:(if v - b*8<8 then v - b*8 else 8)=y) (h:Heap):doCall E (callR E) 8 [.int .i64 w,.int .i64 v,.int .i64 k] h=some (.tuple [.int .i64 (a*8),.int .i64 (b*8),.int .i64 x,.int .i64 y],h):=by
  have c1:¬ k<0:=by omega
  have c2:¬ k≥p:=by omega
  refine Zd (pf:=p8) rfl rfl rfl rfl (by simp [PV.lowL,PV.low]) (by simp [PV.low,PV.lowL]) ?_ h
  show kQ E _ (endQ [⟨6,none⟩,⟨7,none⟩,⟨8,none⟩,⟨9,none⟩] _) .norm { lvl:=0,tmps:=mk 47 [(0,.int .i64 w),(1,.int .i64 v),(2,.int .i64 k)],heap:=[[]],defers:=[] }
  repeat' first|(with_reducible first|refine cS ?_ ?_|refine oS ?_ ?_|refine dS ?_ ?_)<;>intro _|((with_reducible refine kk ?_ ?_);·rfl)|simp -implicitDefEqProofs(disch:=first|omega|assumption)only[push_cast,simprocAttr,Zf,Ze,Zi,Zg,q,hp,c1,c2,hc,ha,hb,hx,hy,stabG,stabS,Zv,Z5,Zu,Zp,Zs,Z3,Z4,Zt,Zq,Zn]|(with_reducible first|refine cB ?_ ?_|refine oB ?_ ?_|refine dB ?_ ?_)<;>intro _|with_reducible first|refine Zw ?_ ?_|refine Zx (by decide) ?_|refine Zy (by decide) ?_ ?_|exact Zz|refine Zr ?_|refine Zo ?_
theorem rect_ok (w v k:Nat) (w0:1≤w) (w1:w≤64) (h0:1≤v) (h1:v≤64) (hk:k<(w+7) / 8*((v+7) / 8)) (h:Heap):doCall E (callR E) 8 [.int .i64 w,.int .i64 v,.int .i64 k] h=some (.tuple [.int .i64 ((8*(k % ((w+7) / 8)):Nat):Int),.int .i64 ((8*(k / ((w+7) / 8)):Nat):Int),.int .i64 ((min 8 (w - 8*(k % ((w+7) / 8))):Nat):Int),.int .i64 ((min 8 (v - 8*(k / ((w+7) / 8))):Nat):Int)],h):=by
  have hle:(w+7) / 8*((v+7) / 8)≤8*8:=Nat.mul_le_mul (by omega) (by omega)
  have hdiv:k / ((w+7) / 8)<(v+7) / 8:=Nat.div_lt_of_lt_mul hk
  have hmod:k % ((w+7) / 8)<(w+7) / 8:=Nat.mod_lt _ (by omega)
  have nm:∀ a b:Nat,(a:Int).tmod b=((a % b:Nat):Int):=fun a b=>by rw [Int.tmod_eq_emod_of_nonneg (by omega)];rfl
  have nd:∀ a b:Nat,(a:Int).tdiv b=((a / b:Nat):Int):=fun a b=>by rw [Int.tdiv_eq_ediv_of_nonneg (by omega)];rfl
  have nn:(0:Int)≤((k / ((w+7) / 8):Nat):Int):=Int.natCast_nonneg _
  have:=rect_g w v k _ _ _ _ _ _ _ (grid_ok w v w0 w1 h0 h1) (Int.natCast_mul _ _).symm ⟨by omega,by omega⟩ ⟨by omega,by omega⟩ (by omega) (nm _ _) (nd _ _) ⟨by omega,by omega⟩ ⟨by omega,by omega⟩ ⟨by omega,by omega⟩ ⟨by omega,by omega⟩ rfl rfl h
  rw [this]
  have t1:∀ (n:Nat),((8*n:Nat):Int)=n*8:=by intro n;omega
  have t2:∀ (W n:Nat),n*8<W+1→((min 8 (W - 8*n):Nat):Int)=if (W:Int) - n*8<8 then (W:Int) - n*8 else 8:=by
    intro W n hn
    split<;>omega
  rw [t1,t1,t2 _ _ (by omega),t2 _ _ (by omega)]
end Go.VI.S
