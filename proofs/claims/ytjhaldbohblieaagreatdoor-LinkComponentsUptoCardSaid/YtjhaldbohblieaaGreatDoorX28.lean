/- Chapter 28: the example, evaluated. -/
import Derived.Test.YtjhaldbohblieaaGreatDoorF28a
import Derived.Test.YtjhaldbohblieaaGreatDoorVC
set_option maxRecDepth 100000
namespace Go.VI.S
open Go.VI
theorem ex_ok (h:Heap):doCall E (callR E) 9 [] h=some (.bool true,h) :=
  call_closedS (E:=E) (k:=200) (pf:=p9) (b:=true) rfl rfl (by kernel_rfl) h
end Go.VI.S
