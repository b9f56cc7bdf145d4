/- Chapter 20: what the bulk of a module bounds in its statements. -/
import Derived.Test.YtefikcjiblkmgaaGreatDoorG20b
import Derived.Test.YtefikcjiblkmgaaGreatDoorF20zi
set_option maxRecDepth 100000
set_option linter.unusedVariables false
namespace Go.VI.S
open Go.VI Go.Proofs
mutual
theorem st_bulk : ∀ s : St,s.size ≤ pbulkL s.c
  | .mk k n t tg v ct fb b fe e => by
    have h1 := sts_bulk b
    have h2 := sts_bulk e
    simp only [St.size,St.c,pbulkL,pbulk,pbulkL_app]
    omega
theorem sts_bulk : ∀ l : List St,sizeS l ≤ pbulkL (sts l)
  | [] => by simp [sizeS]
  | s :: r => by
    have h1 := st_bulk s
    have h2 := sts_bulk r
    simp only [sizeS,sts,pbulkL,pbulk]
    omega
end
theorem mod_oks {m : Mod} (h : pbulk (.agg m.c) ≤ 1048576) : m.OkS := by
  simp only [pbulk,pbulkL] at h
  refine ⟨?_,fun f hf => ?_⟩
  · have := sts_bulk m.mainS
    unfold Mod.main at h
    omega
  · have b := pbulkL_mem (v := f.v) (l := funs m.fs) (List.mem_map_of_mem hf)
    have c := sts_bulk f.bodyS
    simp only [pbulk,pbulkL,Fun'.body] at b
    omega
end Go.VI.S
