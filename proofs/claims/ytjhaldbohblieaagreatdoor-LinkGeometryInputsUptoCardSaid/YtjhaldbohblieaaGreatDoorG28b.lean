/- Chapter 28: what the bulk of a module bounds. -/
import Derived.Test.YtjhaldbohblieaaGreatDoorG28
import Derived.Test.YtjhaldbohblieaaGreatDoorF28q
namespace Go.VI.S
open Go.VI
theorem pbulkL_bd {v : PV} {l : List PV} {n : Nat} (h : pbulkL l ≤ n) (hv : v ∈ l) : pbulk v ≤ n := Nat.le_trans (pbulkL_mem hv) h
theorem fld_name {f : Fld} {l : List Fld} (hf : f ∈ l) : f.name.length ≤ pbulkL (flds l) := by
  have b := pbulkL_mem (v := f.v) (l := flds l) (List.mem_map_of_mem hf)
  simp only [pbulk, pbulkL] at b
  omega
theorem out_ok {m : Mod} (h : pbulk (.agg m.c) ≤ 1048576) : OutOk m := by
  refine ⟨(mod_ok h).outs, fun f hf => ?_⟩
  have := fld_name hf
  simp only [pbulk, pbulkL] at h
  omega
end Go.VI.S
