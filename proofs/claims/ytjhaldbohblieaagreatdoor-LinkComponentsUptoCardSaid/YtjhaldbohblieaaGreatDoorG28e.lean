/- Chapter 28: what the bulk of a module bounds in what Check reads. -/
import Derived.Test.YtjhaldbohblieaaGreatDoorG28bz
import Derived.Test.YtjhaldbohblieaaGreatDoorMF
set_option maxRecDepth 100000
set_option linter.unusedVariables false
namespace Go.VI.S
open Go.VI Go.Proofs
mutual
theorem Tc:∀ s:St,s.sz≤pbulkL s.c
  | .mk k n t tg v ct fb b fe e=>by
    have h1:=Wi b
    have h2:=Wi e
    have h3:=ex_bulk tg
    have h4:=ex_bulk v
    simp only [St.sz,St.c,pbulkL,pbulk,pbulkL_app]
    omega
theorem Wi:∀ l:List St,szS l≤pbulkL (sts l)
  | []=>by simp [szS]
  | s::r=>by
    have h1:=Tc s
    have h2:=Wi r
    simp only [szS,sts,pbulkL,pbulk]
    omega
end
theorem Vu:∀ l:List Fun',funZ l≤pbulkL (funs l)
  | []=>by simp [funZ]
  | f::r=>by
    have h1:=Wi f.bodyS
    have h2:=ex_bulk f.retE
    have h3:=Vu r
    simp only [funs] at h3
    simp only [funZ,funs,List.map_cons,pbulkL,pbulk,Fun'.body,Fun'.ret]
    omega
theorem Ur {m:Mod} (h:pbulk (.agg m.c)≤1048576):szS m.mainS+funZ m.fs≤1048573:=by
  simp only [pbulk,pbulkL] at h
  have h1:=Wi m.mainS
  have h2:=Vu m.fs
  unfold Mod.main at h
  omega
theorem V4 {m:Mod} (h:pbulk (.agg m.c)≤1048576):W6 m:=by
  simp only [pbulk,pbulkL] at h
  intro f hf
  have b:=pbulkL_mem (v:=f.v) (l:=funs m.fs) (List.mem_map_of_mem hf)
  have c:=Y2 (flds f.ps)
  have h1:=Wi f.bodyS
  have h2:=ex_bulk f.retE
  rw [flds_len] at c
  simp only [pbulk,pbulkL,Fun'.body,Fun'.ret] at b
  omega
end Go.VI.S
