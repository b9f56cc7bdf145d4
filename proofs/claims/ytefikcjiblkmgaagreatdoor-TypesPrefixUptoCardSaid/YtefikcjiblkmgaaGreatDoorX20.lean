/- Chapter 20: the example, evaluated. -/
import Derived.Test.YtefikcjiblkmgaaGreatDoorF20a
import Derived.Test.YtefikcjiblkmgaaGreatDoorVC
set_option maxRecDepth 100000
namespace Go.VI.S
open Go.VI
theorem ex_ok (h:Heap):doCall E (callR E) 10 [] h=some (.bool true,h) :=
  call_closedS (E:=E) (k:=200) (pf:=p10) (b:=true) rfl rfl (by kernel_rfl) h
end Go.VI.S
