/- Chapter 53: a triangle, an area, as VI's values. -/
import Derived.Test.YtdbhbceogacppaaGreatI53
import Derived.Test.YtdbhbceogacppaaGreatF53a
set_option maxRecDepth 100000
namespace Go.VI.S
open Go.VI Go.Proofs
theorem vx_of {L:List PV} (h:HasTy Tryz.prog 24 L):∃ v:Vx,L=v.c:=by
  obtain ⟨Ls,rfl,hl,hf⟩:=h.struct_inv Tryz.underlying24
  match Ls,hl with
  | [a,b,c,d,e],_ =>
    obtain ⟨x,rfl,_⟩:=(hf 0 _ _ rfl rfl).int_inv Tryz.underlying3
    obtain ⟨y,rfl,_⟩:=(hf 1 _ _ rfl rfl).int_inv Tryz.underlying3
    obtain ⟨z,rfl,_⟩:=(hf 2 _ _ rfl rfl).int_inv Tryz.underlying3
    obtain ⟨w,rfl,_⟩:=(hf 3 _ _ rfl rfl).int_inv Tryz.underlying3
    obtain ⟨f,l,rfl,_,h1,h2⟩:=(hf 4 _ _ rfl rfl).slice_inv Tryz.underlying22
    obtain ⟨zs,rfl,_⟩:=ints_of Tryz.underlying3 h1 h2
    exact ⟨⟨x,y,z,w,f,zs⟩,rfl⟩
theorem tri_of {L:List PV} (h:HasTy Tryz.prog 27 L):∃ t:Tri,L=t.c:=by
  obtain ⟨Ls,rfl,hl,hf⟩:=h.struct_inv Tryz.underlying27
  match Ls,hl with
  | [A,p,q],_ =>
    obtain ⟨Ms,rfl,hm,hg⟩:=(hf 0 _ _ rfl rfl).array_inv Tryz.underlying25
    obtain ⟨n,rfl,_⟩:=(hf 1 _ _ rfl rfl).int_inv Tryz.underlying3
    obtain ⟨b,rfl⟩:=(hf 2 _ _ rfl rfl).bool_inv Tryz.underlying4
    match Ms,hm with
    | [a,b',d],_ =>
      obtain ⟨u,rfl⟩:=vx_of (hg a (by simp))
      obtain ⟨v,rfl⟩:=vx_of (hg b' (by simp))
      obtain ⟨w,rfl⟩:=vx_of (hg d (by simp))
      exact ⟨⟨u,v,w,n,b⟩,rfl⟩
theorem tri_arg {pv:PV} (h:HasTy Tryz.prog 27 pv.cells) (hA:∃ dd,Tryz.prog.underlying 27=some dd∧pv.isAgg=isA dd):∃ t:Tri,pv=.agg t.c:=by
  obtain ⟨t,ht⟩:=tri_of h
  obtain ⟨d,hd,hA⟩:=hA
  rw [Tryz.underlying27] at hd
  simp only [Option.some.injEq] at hd
  subst hd
  exact ⟨t,by rw [agg_of hA,ht]⟩
theorem area_arg {pv:PV} (h:HasTy Tryz.prog 29 pv.cells) (hA:∃ dd,Tryz.prog.underlying 29=some dd∧pv.isAgg=isA dd):∃ x y z:Int,pv=.agg [.int .i64 x,.int .i64 y,.int .i64 z]:=by
  obtain ⟨Ls,hL,hl,hf⟩:=h.struct_inv Tryz.underlying29
  match Ls,hl with
  | [a,b,c],_ =>
    obtain ⟨x,rfl,_⟩:=(hf 0 _ _ rfl rfl).int_inv Tryz.underlying3
    obtain ⟨y,rfl,_⟩:=(hf 1 _ _ rfl rfl).int_inv Tryz.underlying3
    obtain ⟨z,rfl,_⟩:=(hf 2 _ _ rfl rfl).int_inv Tryz.underlying3
    obtain ⟨d,hd,hA⟩:=hA
    rw [Tryz.underlying29] at hd
    simp only [Option.some.injEq] at hd
    subst hd
    exact ⟨x,y,z,by rw [agg_of hA,hL];rfl⟩
theorem tri_bulk {t:Tri} (h:pbulk (.agg t.c)≤1048576):t.a.l.length≤1048576:=by
  have:pbulkL (t.a.l.map fun n=>PV.int .i64 n)=t.a.l.length:=ints_bulk (k:=.i64) t.a.l
  simp only [pbulk,pbulkL,ints] at h
  omega
end Go.VI.S
