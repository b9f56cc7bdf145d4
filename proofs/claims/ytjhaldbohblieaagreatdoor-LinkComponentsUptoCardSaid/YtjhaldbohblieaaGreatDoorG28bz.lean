/- Chapter 28: what the bulk of an expression bounds. -/
import Derived.Test.YtjhaldbohblieaaGreatDoorG28
import Derived.Test.YtjhaldbohblieaaGreatDoorMB
set_option maxRecDepth 100000
set_option linter.unusedVariables false
namespace Go.VI.S
open Go.VI Go.Proofs
mutual
theorem ex_bulk:∀ e:Ex,e.size≤pbulkL e.c
  | .mk k o n x fl xs=>by
    have:=exs_bulk xs
    simp only [Ex.size,Ex.c,pbulkL,pbulk]
    omega
theorem exs_bulk:∀ l:List Ex,sizeL l≤pbulkL (exs l)
  | []=>by simp [sizeL]
  | e::r=>by
    have:=ex_bulk e
    have:=exs_bulk r
    simp only [sizeL,exs,pbulkL,pbulk]
    omega
end
end Go.VI.S
