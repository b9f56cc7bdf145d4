/- Chapter 53: the example, evaluated. -/
import Derived.Test.YtdbhbceogacppaaGreatF53a
import Derived.Test.YtdbhbceogacppaaGreatVC
set_option maxRecDepth 100000
namespace Go.VI.S
open Go.VI
theorem ex_ok (h:Heap):doCall E (callR E) 5 [] h=some (.bool true,h) :=
  call_closedS (E:=E) (k:=200) (pf:=p5) (b:=true) rfl rfl (by kernel_rfl) h
end Go.VI.S
