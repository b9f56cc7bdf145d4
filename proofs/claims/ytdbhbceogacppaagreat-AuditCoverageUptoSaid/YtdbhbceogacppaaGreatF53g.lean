/- Chapter 53: the pixels of a rectangle. -/
import Derived.Test.YtdbhbceogacppaaGreatF53f
set_option maxRecDepth 100000
set_option linter.unusedSimpArgs false
set_option linter.unusedVariables false
namespace Go.VI.S
open Go.VI
theorem lim_in (a s:Nat) (h0:0<s) (h1:a+s≤64) (h:Heap):doCall E (callR E) 31 [.int .i64 a,.int .i64 s] h=some (.tuple [.int .i64 a,.int .i64 ((a+s:Nat):Int)],h):=by
  have c1:¬ (s:Int)≤0:=by omega
  have c2:(a:Int)≤64 - s:=by omega
  have c3:((0:Int)>a)=False:=by simp
  refine Zd (pf:=p31) rfl rfl rfl rfl (by simp [PV.lowL,PV.low]) (by simp [PV.low,PV.lowL]) ?_ h
  show kQ E _ (endQ [⟨4,none⟩,⟨5,none⟩] _) .norm { lvl:=0,tmps:=mk 19 [(0,.int .i64 a),(1,.int .i64 s)],heap:=[[]],defers:=[] }
  repeat' first|(with_reducible first|refine cS ?_ ?_|refine oS ?_ ?_|refine dS ?_ ?_)<;>intro _|((with_reducible refine kk ?_ ?_);·rfl)|simp -implicitDefEqProofs(disch:=first|omega|assumption)only[push_cast,simprocAttr,Zf,Ze,Zi,Zg,c1,c2,c3]|(with_reducible first|refine cB ?_ ?_|refine oB ?_ ?_|refine dB ?_ ?_)<;>intro _
structure Pix where
  x:Nat
  y:Nat
  m:Int
abbrev Pix.v (p:Pix):PV:=.agg [.int .i64 p.x,.int .i64 p.y,.int .i64 p.m]
def pxs (l:List Pix):List PV:=l.map Pix.v
theorem pxs_len {l:List Pix}:(pxs l).length=l.length:=by simp [pxs]
theorem pxs_low {l:List Pix}:PV.lowL 0 (pxs l)=true:=by
  induction l with
  | nil=>rfl
  | cons a l ih=>simpa [pxs,PV.lowL,PV.low] using ih
attribute [push_cast] pxs_len pxs_low
def rowL (M:Nat→Nat→Int) (y:Nat):Nat→Nat→List Pix
  | 0,_=>[]
  | k+1,x=>(if M x y≠0 then [⟨x,y,M x y⟩] else [])++rowL M y k (x+1)
def recL (M:Nat→Nat→Int) (x w:Nat):Nat→Nat→List Pix
  | 0,_=>[]
  | k+1,y=>rowL M y w x++recL M x w k (y+1)
theorem row_len (M:Nat→Nat→Int) (y:Nat):∀ k x,(rowL M y k x).length≤k
  | 0,_=>Nat.le_refl _
  | k+1,x=>by
    have:=row_len M y k (x+1)
    simp only [rowL,List.length_append]
    split<;>simp<;>omega
theorem rec_len (M:Nat→Nat→Int) (x w:Nat):∀ k y,(recL M x w k y).length≤w*k
  | 0,_=>Nat.le_refl _
  | k+1,y=>by
    have:=rec_len M x w k (y+1)
    have:=row_len M y w x
    simp only [recL,List.length_append,Nat.mul_succ]
    omega
theorem pxs_tk {l:List Pix}:(pxs l).take l.length=pxs l:=List.take_of_length_le (by simp [pxs])
theorem pxi_loop (T:Tri) (n:Int) (y R:Nat) (hR:R≤64) {v13 v16:PV}:∀ (k x:Nat) (L:List Pix) (g:Nat) {ks:List KI} {Q:PEx→Fr→Prop},x+k=R→L.length+k≤5000 →
    (∀ t g',look t 5=.int .i64 n→look t 6=.ip T.c→look t 13=v13→look t 14=.int .i64 R→look t 16=v16→look t 18=.int .i64 y→look t 17=.sl (0,0) g' 0 (L++rowL (fun x y=>mskF T x y n) y k x).length→kQ E ks Q .norm { lvl:=0,tmps:=mk 60 t,heap:=[[some (.mem (pxs (L++rowL (fun x y=>mskF T x y n) y k x)) g' true 3),none]],defers:=[] }) →
    ∀ t,look t 5=.int .i64 n→look t 6=.ip T.c→look t 13=v13→look t 14=.int .i64 R→look t 16=v16→look t 17=.sl (0,0) g 0 L.length→look t 18=.int .i64 y→look t 19=.int .i64 x →
    kQ E (.code p19l1::.blk 2::ks) Q .norm { lvl:=0,tmps:=mk 60 t,heap:=[[some (.mem (pxs L) g true 3),none]],defers:=[] }:=by
  intro k
  induction k with
  | zero =>
    intro x L g ks Q hx hb hn t h5 h6 h13 h14 h16 h17 h18 h19
    have hx:x=R:=by omega
    subst hx
    refine loopK' (c:=p19l1) rfl ?_
    repeat' first|(with_reducible first|refine cS ?_ ?_|refine oS ?_ ?_|refine dS ?_ ?_)<;>intro _|((with_reducible refine kk ?_ ?_);·rfl)|simp -implicitDefEqProofs(disch:=first|omega|assumption)only[push_cast,simprocAttr,Zf,Ze,Zi,Zg,h5,h6,h13,h14,h16,h17,h18,h19]|(with_reducible first|refine cB ?_ ?_|refine oB ?_ ?_|refine dB ?_ ?_)<;>intro _
    rw [rowL,List.append_nil] at hn
    exact hn _ _ (by simp [look,Za,h5]) (by simp [look,Za,h6]) (by simp [look,Za,h13]) (by simp [look,Za,h14]) (by simp [look,Za,h16]) (by simp [look,Za,h18]) (by simp [look,Za,h17])
  | succ k ih =>
    intro x L g ks Q hx hb hn t h5 h6 h13 h14 h16 h17 h18 h19
    have hlt:(x:Int)<R:=by omega
    by_cases hm:mskF T x y n=0
    · rw [rowL,if_neg (by simp [hm]),List.nil_append] at hn
      refine loopK' (c:=p19l1) rfl ?_
      repeat' first|(with_reducible first|refine cS ?_ ?_|refine oS ?_ ?_|refine dS ?_ ?_)<;>intro _|((with_reducible refine kk ?_ ?_);·rfl)|simp -implicitDefEqProofs(disch:=first|omega|assumption)only[push_cast,simprocAttr,Zf,Ze,Zi,Zg,h5,h6,h13,h14,h16,h17,h18,h19,hlt,msk_ok,hm]|(with_reducible first|refine cB ?_ ?_|refine oB ?_ ?_|refine dB ?_ ?_)<;>intro _
      exact ih (x+1) L g (by omega) (by omega) hn _ (by simp [look,Za,h5]) (by simp [look,Za,h6]) (by simp [look,Za,h13]) (by simp [look,Za,h14]) (by simp [look,Za,h16]) (by simp [look,Za,h17]) (by simp [look,Za,h18]) (by simp [look,Za])
    · rw [rowL,if_pos (by simpa using hm),← List.append_assoc] at hn
      refine loopK' (c:=p19l1) rfl ?_
      repeat' first|(with_reducible first|refine cS ?_ ?_|refine oS ?_ ?_|refine dS ?_ ?_)<;>intro _|((with_reducible refine kk ?_ ?_);·rfl)|simp -implicitDefEqProofs(disch:=first|omega|assumption)only[push_cast,simprocAttr,Zf,Ze,Zi,Zg,h5,h6,h13,h14,h16,h17,h18,h19,hlt,msk_ok,hm,pxs_tk]|(with_reducible first|refine cB ?_ ?_|refine oB ?_ ?_|refine dB ?_ ?_)<;>intro _
      rw [show pxs L++[PV.agg [.int .i64 x,.int .i64 y,.int .i64 (mskF T x y n)]]=pxs (L++[⟨x,y,mskF T x y n⟩]) from by simp [pxs]]
      have hq:(L++[(⟨x,y,mskF T x y n⟩:Pix)]).length+k≤5000:=by simp only [List.length_append,List.length_cons,List.length_nil];omega
      refine ih (x+1) (L++[⟨x,y,mskF T x y n⟩]) (g+1) (by omega) hq hn _ ?_ ?_ ?_ ?_ ?_ ?_ ?_ ?_
      all_goals simp [look,Za, *]
theorem pxo_loop (T:Tri) (n:Int) (l w B:Nat) (hR:l+w≤64) (hB:B≤64):∀ (k y:Nat) (L:List Pix) (g:Nat) {ks:List KI} {Q:PEx→Fr→Prop},y+k=B→L.length+64*k≤4900 →
    (∀ t g',look t 17=.sl (0,0) g' 0 (L++recL (fun x y=>mskF T x y n) l w k y).length→kQ E ks Q .norm { lvl:=0,tmps:=mk 60 t,heap:=[[some (.mem (pxs (L++recL (fun x y=>mskF T x y n) l w k y)) g' true 3),none]],defers:=[] }) →
    ∀ t,look t 5=.int .i64 n→look t 6=.ip T.c→look t 13=.int .i64 l→look t 14=.int .i64 ((l+w:Nat):Int)→look t 16=.int .i64 B→look t 17=.sl (0,0) g 0 L.length→look t 18=.int .i64 y →
    kQ E (.code p19l0::.blk 0::ks) Q .norm { lvl:=0,tmps:=mk 60 t,heap:=[[some (.mem (pxs L) g true 3),none]],defers:=[] }:=by
  intro k
  induction k with
  | zero =>
    intro y L g ks Q hy hb hn t h5 h6 h13 h14 h16 h17 h18
    have hy:y=B:=by omega
    subst hy
    refine loopK' (c:=p19l0) rfl ?_
    repeat' first|(with_reducible first|refine cS ?_ ?_|refine oS ?_ ?_|refine dS ?_ ?_)<;>intro _|((with_reducible refine kk ?_ ?_);·rfl)|simp -implicitDefEqProofs(disch:=first|omega|assumption)only[push_cast,simprocAttr,Zf,Ze,Zi,Zg,h5,h6,h13,h14,h16,h17,h18]|(with_reducible first|refine cB ?_ ?_|refine oB ?_ ?_|refine dB ?_ ?_)<;>intro _
    rw [recL,List.append_nil] at hn
    exact hn _ _ (by simp [look,Za,h17])
  | succ k ih =>
    intro y L g ks Q hy hb hn t h5 h6 h13 h14 h16 h17 h18
    have hlt:(y:Int)<B:=by omega
    have hrl:=row_len (fun x y=>mskF T x y n) y w l
    refine loopK' (c:=p19l0) rfl ?_
    repeat' first|(with_reducible first|refine cS ?_ ?_|refine oS ?_ ?_|refine dS ?_ ?_)<;>intro _|((with_reducible refine kk ?_ ?_);·rfl)|simp -implicitDefEqProofs(disch:=first|omega|assumption)only[push_cast,simprocAttr,Zf,Ze,Zi,Zg,h5,h6,h13,h14,h16,h17,h18,hlt]|(with_reducible first|refine cB ?_ ?_|refine oB ?_ ?_|refine dB ?_ ?_)<;>intro _
    refine pxi_loop T n y (l+w) hR (v13:=.int .i64 l) (v16:=.int .i64 B) w l L g rfl (by omega) ?_ _ (by simp [look,Za, *]) (by simp [look,Za, *]) (by simp [look,Za, *]) (by simp [look,Za, *]) (by simp [look,Za, *]) (by simp [look,Za, *]) (by simp [look,Za, *]) (by simp [look,Za, *])
    intro t' g' k5 k6 k13 k14 k16 k18 k17
    rw [recL,← List.append_assoc] at hn
    repeat' first|(with_reducible first|refine cS ?_ ?_|refine oS ?_ ?_|refine dS ?_ ?_)<;>intro _|((with_reducible refine kk ?_ ?_);·rfl)|simp -implicitDefEqProofs(disch:=first|omega|assumption)only[push_cast,simprocAttr,Zf,Ze,Zi,Zg,k5,k6,k13,k14,k16,k18,k17]|(with_reducible first|refine cB ?_ ?_|refine oB ?_ ?_|refine dB ?_ ?_)<;>intro _
    exact ih (y+1) _ g' (by omega) (by simp only [List.length_append];omega) hn _ (by simp [look,Za,k5]) (by simp [look,Za,k6]) (by simp [look,Za,k13]) (by simp [look,Za,k14]) (by simp [look,Za,k16]) (by simp [look,Za,k17]) (by simp [look,Za])
theorem pix_ok (t:Tri) (x y w h n:Nat) (m:Int) (h0:0<w) (h1:x+w≤64) (h2:0<h) (h3:y+h≤64) (H:Heap):doCall E (callR E) 19 [.agg t.c,.int .i64 x,.int .i64 y,.int .i64 w,.int .i64 h,.int .i64 m] H=some (.vs .any (pxs (recL (fun x y=>mskF t x y m) x w h y)),H):=by
  have l1:=lim_in x w h0 h1
  have l2:=lim_in y h h2 h3
  refine Zd (pf:=p19) rfl rfl rfl rfl (by simp [PV.lowL,PV.low]) (by simp [PV.low,PV.lowL,pxs_low]) ?_ H
  show kQ E _ (endQ [⟨12,none⟩] _) .norm { lvl:=0,tmps:=mk 60 [(0,.agg t.c),(1,.int .i64 x),(2,.int .i64 y),(3,.int .i64 w),(4,.int .i64 h),(5,.int .i64 m)],heap:=[[none,none]],defers:=[] }
  repeat' first|(with_reducible first|refine cS ?_ ?_|refine oS ?_ ?_|refine dS ?_ ?_)<;>intro _|((with_reducible refine kk ?_ ?_);·rfl)|simp -implicitDefEqProofs(disch:=first|omega|assumption)only[push_cast,simprocAttr,Zf,Ze,Zi,Zg,l1,l2]|(with_reducible first|refine cB ?_ ?_|refine oB ?_ ?_|refine dB ?_ ?_)<;>intro _
  refine pxo_loop t m x w (y+h) h1 h3 h y [] 1 rfl (by simp;omega) ?_ _ (by simp [look,Za]) (by simp [look,Za]) (by simp [look,Za]) (by simp [look,Za]) (by simp [look,Za]) (by simp [look,Za]) (by simp [look,Za])
  intro t' g' h17
  repeat' first|(with_reducible first|refine cS ?_ ?_|refine oS ?_ ?_|refine dS ?_ ?_)<;>intro _|((with_reducible refine kk ?_ ?_);·rfl)|simp -implicitDefEqProofs(disch:=first|omega|assumption)only[push_cast,simprocAttr,Zf,Ze,Zi,Zg,h17]|(with_reducible first|refine cB ?_ ?_|refine oB ?_ ?_|refine dB ?_ ?_)<;>intro _
  rw [pxs_tk]
end Go.VI.S
