/- Chapter 16: the functions that the laws call; Edges is given by what it says. -/
import Derived.Test.YteodaifeknghaaaF16m
set_option maxRecDepth 100000
namespace Go.VI.S
open Go.VI
def p26x : PFn := { p26 with ext := some S0.edgesV }
def pf1 (n : Nat) : Option PFn := bif Nat.beq n 26 then some p26x else pf n
noncomputable def E : Env := ⟨pf1,fun _ => .junk⟩
theorem edges_ok (f : Fl) (ts : List S0.T3) (hts : ts.length ≤ 1048576) (h : Heap) : doCall E (callR E) 26 [.vs f (S0.encT ts)] h = some (.vs .any (S0.encE (S0.edgesF ts)),h) := by
  refine call_ext (pf := p26x) (val := S0.edgesV) rfl rfl rfl ?_ (by simp [PV.lowL,PV.low]) (by simp [PV.low]) h
  simp only [S0.edgesV,S0.encT_len,if_pos hts,S0.mapO_enc,Option.map_some]
end Go.VI.S
