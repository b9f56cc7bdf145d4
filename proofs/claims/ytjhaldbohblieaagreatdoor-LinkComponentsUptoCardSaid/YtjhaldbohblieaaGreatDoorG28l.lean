/- Chapter 28: what the bulk of a module bounds. -/
import Derived.Test.YtjhaldbohblieaaGreatDoorG28
import Derived.Test.YtjhaldbohblieaaGreatDoorML
set_option maxRecDepth 100000
set_option linter.unusedVariables false
namespace Go.VI.S
open Go.VI Go.Proofs
theorem Tv {f:Fld} {l:List Fld} (hf:f∈l):f.name.length≤pbulkL (flds l):=by
  have b:=pbulkL_mem (v:=f.v) (l:=flds l) (List.mem_map_of_mem hf)
  simp only [pbulk,pbulkL] at b
  omega
theorem out_ok {m:Mod} (h:pbulk (.agg m.c)≤1048576):OutOk m:=by
  refine ⟨(mod_ok h).outs,fun f hf=>?_⟩
  have:=Tv hf
  simp only [pbulk,pbulkL] at h
  omega
theorem Ti {pv:PV} (h:HasTy Tryz.prog 31 pv.cells) (hA:∃ dd,Tryz.prog.underlying 31=some dd∧pv.isAgg=isA dd):∃ m n:Mod,pv=.agg (m.c++n.c):=by
  obtain ⟨Ls,hLs,hl,hf⟩:=h.struct_inv Tryz.underlying31
  match Ls,hl with
  | [a,b],_ =>
    obtain ⟨m,rfl⟩:=mod_of (hf 0 _ _ rfl rfl)
    obtain ⟨n,rfl⟩:=mod_of (hf 1 _ _ rfl rfl)
    exact ⟨m,n,by rw [agg_elem Tryz.underlying31 hA,hLs];simp⟩
end Go.VI.S
