/- What simp need not look into: the code that is still to be done. -/
import Derived.Test.YtjhaldbohblieaaGreatDoorVC
namespace Go.VI
variable {E:Env} {ks:List KI} {Q:PEx→Fr→Prop} {ex:PEx} {fr fr':Fr}
@[congr] theorem kQ_congr (h:fr=fr'):kQ E ks Q ex fr=kQ E ks Q ex fr':=by rw [h]
@[congr] theorem optK_congr {x x':Option Fr} (h:x=x'):optK E x ks Q=optK E x' ks Q:=by rw [h]
@[congr] theorem optD_congr {x x':Option Fr} {past r:List DPO} {it:DPO} (h:x=x'):optD E x past it r fr ks Q=optD E x' past it r fr ks Q:=by rw [h]
@[congr] theorem condK_congr {v v':PV} {a b:PC} (h:v=v'):condK E v a b ks Q fr=condK E v' a b ks Q fr:=by rw [h]
theorem u8_beq {a b:UInt8}:(a==b)=decide (a.toNat=b.toNat):=by
  by_cases h:a=b
  · subst h;simp
  · simp [h,UInt8.toNat_inj]
theorem l_beq {a b:UInt8} {l m:List UInt8}:((a::l)==(b::m))=(decide (a.toNat=b.toNat)&&(l==m)):=by
  rw [List.cons_beq_cons,u8_beq]
theorem X2:(([]:List UInt8)==[])=true:=rfl
theorem X1 {a:UInt8} {l:List UInt8}:((a::l)==[])=false:=rfl
theorem X0 {a:UInt8} {l:List UInt8}:([]==(a::l))=false:=rfl
end Go.VI
