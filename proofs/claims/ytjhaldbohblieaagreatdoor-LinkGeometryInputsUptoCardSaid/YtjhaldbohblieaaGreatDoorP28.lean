/- The seat's functions as VI's codes, printed by a program, part 2. -/
import Derived.Test.YtjhaldbohblieaaGreatDoorP28a
set_option maxRecDepth 100000
namespace Go.VI.S
open Go.VI
/-- frustum/frustumref18.stmtNodes -/
def p135 : PFn := { nparams := 1, ntmps := 48, nobjs := 0, pure := true, keep := false, results := [⟨2, none⟩], body := (.cln (List.range 1) (.seq (.reg [⟨some 2, .mov (.c (.int .i64 0)), none⟩])
  (.seq (.reg [⟨some 3, .mov (.c (.int .i64 0)), none⟩])
  (.seq (.seq (.reg [⟨some 4, .mov (.c (.int .i64 0)), none⟩])
  (.block 0 (p135l0)))
  (.cln [3] (.seq (.reg [⟨some 47, .mov (.t 3), none⟩,
    ⟨some 2, .mov (.t 47), none⟩])
  (.ret))))))) }
def p97l0 : PC := .loop (.cln [1, 3, 4] (.seq (.seq (.reg [⟨some 8, .mov (.t 4), none⟩,
    ⟨some 9, .faddr 7 (.t 1), none⟩,
    ⟨some 10, .load none (.t 9), none⟩,
    ⟨some 11, .lenl (.t 10), none⟩,
    ⟨some 12, .bini .lss (.t 8) (.t 11), none⟩])
  (.cond (.t 12) (.skip) (.exit 0)))
  (.cln [1, 3, 4] (.seq (.block 1 (.regd [⟨0, ⟨some 15, .mov (.t 3), none⟩, false, [], []⟩,
    ⟨1, ⟨some 16, .faddr 7 (.t 1), none⟩, false, [], []⟩,
    ⟨2, ⟨some 17, .load none (.t 16), none⟩, false, [1], []⟩,
    ⟨3, ⟨some 18, .mov (.t 4), none⟩, false, [], []⟩,
    ⟨4, ⟨some 19, .iaddr 10 (.t 17) (.t 18), none⟩, false, [1, 2, 3], []⟩,
    ⟨5, ⟨some 20, .faddr 4 (.t 19), none⟩, false, [1, 2, 3, 4], []⟩,
    ⟨6, ⟨some 21, .load none (.t 20), none⟩, false, [1, 2, 3, 4, 5], []⟩,
    ⟨9, ⟨some 24, .faddr 7 (.t 1), none⟩, false, [], []⟩,
    ⟨10, ⟨some 25, .load none (.t 24), none⟩, false, [9], []⟩,
    ⟨11, ⟨some 26, .mov (.t 4), none⟩, false, [], []⟩,
    ⟨12, ⟨some 27, .iaddr 10 (.t 25) (.t 26), none⟩, false, [9, 10, 11], []⟩,
    ⟨13, ⟨some 28, .faddr 5 (.t 27), none⟩, false, [9, 10, 11, 12], []⟩,
    ⟨14, ⟨some 29, .load (some 5) (.t 28), none⟩, false, [9, 10, 11, 12, 13], []⟩,
    ⟨7, ⟨some 22, .call (.c (.fn 135 [] [])) [.t 21], none⟩, true, [1, 2, 3, 4, 5, 6], [9, 10, 12, 13, 14]⟩,
    ⟨8, ⟨some 23, .bini .add (.t 15) (.t 22), none⟩, false, .range 8, []⟩,
    ⟨15, ⟨some 30, .call (.c (.fn 136 [] [])) [.t 29], none⟩, true, [1, 2, 3, 4, 5, 6, 7, 9, 10, 11, 12, 13, 14], []⟩,
    ⟨16, ⟨some 31, .bini .add (.t 23) (.t 30), none⟩, false, .range 16, []⟩,
    ⟨17, ⟨some 3, .mov (.t 31), none⟩, true, .range 17, []⟩] (.range 18) 32))
  (.cln [1, 3, 4] (.reg [⟨some 13, .mov (.t 4), none⟩,
    ⟨some 14, .bini .add (.t 13) (.c (.int .i64 1)), none⟩,
    ⟨some 4, .mov (.t 14), none⟩]))))))
/-- frustum/frustumref18.Nodes -/
def p97 : PFn := { nparams := 1, ntmps := 33, nobjs := 0, pure := true, keep := false, results := [⟨2, none⟩], body := (.cln (List.range 1) (.seq (.reg [⟨some 1, .boxi (.t 0), none⟩,
    ⟨some 2, .mov (.c (.int .i64 0)), none⟩])
  (.seq (.reg [⟨some 5, .faddr 8 (.t 1), none⟩,
    ⟨some 6, .load none (.t 5), none⟩,
    ⟨some 7, .call (.c (.fn 135 [] [])) [.t 6], none⟩,
    ⟨some 3, .mov (.t 7), none⟩])
  (.seq (.seq (.reg [⟨some 4, .mov (.c (.int .i64 0)), none⟩])
  (.block 0 (p97l0)))
  (.cln [3] (.seq (.reg [⟨some 32, .mov (.t 3), none⟩,
    ⟨some 2, .mov (.t 32), none⟩])
  (.ret))))))) }
def p137l0 : PC := .loop (.cln [0, 3, 4] (.seq (.seq (.reg [⟨some 5, .mov (.t 4), none⟩,
    ⟨some 6, .mov (.t 0), none⟩,
    ⟨some 7, .lenl (.t 6), none⟩,
    ⟨some 8, .bini .lss (.t 5) (.t 7), none⟩])
  (.cond (.t 8) (.skip) (.exit 0)))
  (.cln [0, 3, 4] (.seq (.block 1 (.regd [⟨0, ⟨some 11, .mov (.t 3), none⟩, false, [], []⟩,
    ⟨1, ⟨some 12, .mov (.t 0), none⟩, false, [], []⟩,
    ⟨2, ⟨some 13, .mov (.t 4), none⟩, false, [], []⟩,
    ⟨3, ⟨some 14, .iaddr 17 (.t 12) (.t 13), none⟩, false, [1, 2], []⟩,
    ⟨4, ⟨some 15, .faddr 15 (.t 14), none⟩, false, [1, 2, 3], []⟩,
    ⟨5, ⟨some 16, .load none (.t 15), none⟩, false, [1, 2, 3, 4], []⟩,
    ⟨7, ⟨some 18, .mov (.t 0), none⟩, false, [], []⟩,
    ⟨8, ⟨some 19, .mov (.t 4), none⟩, false, [], []⟩,
    ⟨9, ⟨some 20, .iaddr 17 (.t 18) (.t 19), none⟩, false, [7, 8], []⟩,
    ⟨10, ⟨some 21, .faddr 16 (.t 20), none⟩, false, [7, 8, 9], []⟩,
    ⟨11, ⟨some 22, .load none (.t 21), none⟩, false, [7, 8, 9, 10], []⟩,
    ⟨6, ⟨some 17, .call (.c (.fn 137 [] [])) [.t 16], none⟩, true, [1, 2, 3, 4, 5], [9, 10, 11]⟩,
    ⟨12, ⟨some 23, .call (.c (.fn 137 [] [])) [.t 22], none⟩, true, [1, 2, 3, 4, 5, 6, 7, 8, 9, 10, 11], []⟩,
    ⟨13, ⟨some 24, .mx (.t 17) [.t 23], none⟩, false, [1, 2, 3, 4, 5, 6, 7, 8, 9, 10, 11, 12], []⟩,
    ⟨14, ⟨some 25, .bini .add (.c (.int .i64 1)) (.t 24), none⟩, false, [1, 2, 3, 4, 5, 6, 7, 8, 9, 10, 11, 12, 13], []⟩,
    ⟨15, ⟨some 26, .mx (.t 11) [.t 25], none⟩, false, .range 15, []⟩,
    ⟨16, ⟨some 3, .mov (.t 26), none⟩, true, .range 16, []⟩] (.range 17) 27))
  (.cln [0, 3, 4] (.reg [⟨some 9, .mov (.t 4), none⟩,
    ⟨some 10, .bini .add (.t 9) (.c (.int .i64 1)), none⟩,
    ⟨some 4, .mov (.t 10), none⟩]))))))
/-- frustum/frustumref18.stmtDepth -/
def p137 : PFn := { nparams := 1, ntmps := 28, nobjs := 0, pure := true, keep := false, results := [⟨2, none⟩], body := (.cln (List.range 1) (.seq (.reg [⟨some 2, .mov (.c (.int .i64 0)), none⟩])
  (.seq (.reg [⟨some 3, .mov (.c (.int .i64 0)), none⟩])
  (.seq (.seq (.reg [⟨some 4, .mov (.c (.int .i64 0)), none⟩])
  (.block 0 (p137l0)))
  (.cln [3] (.seq (.reg [⟨some 27, .mov (.t 3), none⟩,
    ⟨some 2, .mov (.t 27), none⟩])
  (.ret))))))) }
def p139l0 : PC := .loop (.cln [1, 3, 4] (.seq (.seq (.reg [⟨some 5, .mov (.t 4), none⟩,
    ⟨some 6, .faddr 4 (.t 1), none⟩,
    ⟨some 7, .load none (.t 6), none⟩,
    ⟨some 8, .lenl (.t 7), none⟩,
    ⟨some 9, .bini .lss (.t 5) (.t 8), none⟩])
  (.cond (.t 9) (.skip) (.exit 0)))
  (.cln [1, 3, 4] (.seq (.block 1 (.reg [⟨some 12, .mov (.t 3), none⟩,
    ⟨some 13, .faddr 4 (.t 1), none⟩,
    ⟨some 14, .load none (.t 13), none⟩,
    ⟨some 15, .mov (.t 4), none⟩,
    ⟨some 16, .iaddr 5 (.t 14) (.t 15), none⟩,
    ⟨some 17, .load (some 5) (.t 16), none⟩,
    ⟨some 18, .call (.c (.fn 139 [] [])) [.t 17], none⟩,
    ⟨some 19, .mx (.t 12) [.t 18], none⟩,
    ⟨some 3, .mov (.t 19), none⟩]))
  (.cln [1, 3, 4] (.reg [⟨some 10, .mov (.t 4), none⟩,
    ⟨some 11, .bini .add (.t 10) (.c (.int .i64 1)), none⟩,
    ⟨some 4, .mov (.t 11), none⟩]))))))
/-- frustum/frustumref18.ExprDepth -/
def p139 : PFn := { nparams := 1, ntmps := 22, nobjs := 0, pure := true, keep := false, results := [⟨2, none⟩], body := (.cln (List.range 1) (.seq (.reg [⟨some 1, .boxi (.t 0), none⟩,
    ⟨some 2, .mov (.c (.int .i64 0)), none⟩])
  (.seq (.reg [⟨some 3, .mov (.c (.int .i64 0)), none⟩])
  (.seq (.seq (.reg [⟨some 4, .mov (.c (.int .i64 0)), none⟩])
  (.block 0 (p139l0)))
  (.cln [3] (.seq (.reg [⟨some 20, .mov (.t 3), none⟩,
    ⟨some 21, .bini .add (.t 20) (.c (.int .i64 1)), none⟩,
    ⟨some 2, .mov (.t 21), none⟩])
  (.ret))))))) }
def p138l1 : PC := .loop (.cln [0, 3, 4, 5, 6] (.seq (.seq (.reg [⟨some 32, .mov (.t 6), none⟩,
    ⟨some 33, .mov (.t 5), none⟩,
    ⟨some 34, .lenl (.t 33), none⟩,
    ⟨some 35, .bini .lss (.t 32) (.t 34), none⟩])
  (.cond (.t 35) (.skip) (.exit 2)))
  (.cln [0, 3, 4, 5, 6] (.seq (.block 3 (.reg [⟨some 38, .mov (.t 3), none⟩,
    ⟨some 39, .mov (.t 5), none⟩,
    ⟨some 40, .mov (.t 6), none⟩,
    ⟨some 41, .iaddr 5 (.t 39) (.t 40), none⟩,
    ⟨some 42, .load (some 5) (.t 41), none⟩,
    ⟨some 43, .call (.c (.fn 139 [] [])) [.t 42], none⟩,
    ⟨some 44, .mx (.t 38) [.t 43], none⟩,
    ⟨some 3, .mov (.t 44), none⟩]))
  (.cln [0, 3, 4, 5, 6] (.reg [⟨some 36, .mov (.t 6), none⟩,
    ⟨some 37, .bini .add (.t 36) (.c (.int .i64 1)), none⟩,
    ⟨some 6, .mov (.t 37), none⟩]))))))
def p138l0 : PC := .loop (.cln [0, 3, 4] (.seq (.seq (.reg [⟨some 7, .mov (.t 4), none⟩,
    ⟨some 8, .mov (.t 0), none⟩,
    ⟨some 9, .lenl (.t 8), none⟩,
    ⟨some 10, .bini .lss (.t 7) (.t 9), none⟩])
  (.cond (.t 10) (.skip) (.exit 0)))
  (.cln [0, 3, 4] (.seq (.block 1 (.seq (.regd [⟨0, ⟨some 13, .mov (.t 3), none⟩, false, [], []⟩,
    ⟨1, ⟨some 14, .mov (.t 0), none⟩, false, [], []⟩,
    ⟨2, ⟨some 15, .mov (.t 4), none⟩, false, [], []⟩,
    ⟨3, ⟨some 16, .iaddr 17 (.t 14) (.t 15), none⟩, false, [1, 2], []⟩,
    ⟨4, ⟨some 17, .faddr 15 (.t 16), none⟩, false, [1, 2, 3], []⟩,
    ⟨5, ⟨some 18, .load none (.t 17), none⟩, false, [1, 2, 3, 4], []⟩,
    ⟨7, ⟨some 20, .mov (.t 0), none⟩, false, [], []⟩,
    ⟨8, ⟨some 21, .mov (.t 4), none⟩, false, [], []⟩,
    ⟨9, ⟨some 22, .iaddr 17 (.t 20) (.t 21), none⟩, false, [7, 8], []⟩,
    ⟨10, ⟨some 23, .faddr 16 (.t 22), none⟩, false, [7, 8, 9], []⟩,
    ⟨11, ⟨some 24, .load none (.t 23), none⟩, false, [7, 8, 9, 10], []⟩,
    ⟨6, ⟨some 19, .call (.c (.fn 138 [] [])) [.t 18], none⟩, true, [1, 2, 3, 4, 5], [9, 10, 11]⟩,
    ⟨12, ⟨some 25, .call (.c (.fn 138 [] [])) [.t 24], none⟩, true, [1, 2, 3, 4, 5, 6, 7, 8, 9, 10, 11], []⟩,
    ⟨13, ⟨some 26, .mx (.t 13) [.t 19, .t 25], none⟩, false, .range 13, []⟩,
    ⟨14, ⟨some 3, .mov (.t 26), none⟩, true, .range 14, []⟩] (.range 15) 27)
  (.seq (.reg [⟨some 27, .mov (.t 0), none⟩,
    ⟨some 28, .mov (.t 4), none⟩,
    ⟨some 29, .iaddr 17 (.t 27) (.t 28), none⟩,
    ⟨some 30, .load (some 17) (.t 29), none⟩,
    ⟨some 31, .call (.c (.fn 172 [] [])) [.t 30], none⟩,
    ⟨some 5, .mov (.t 31), none⟩])
  (.seq (.reg [⟨some 6, .mov (.c (.int .i64 0)), none⟩])
  (.block 2 (p138l1))))))
  (.cln [0, 3, 4] (.reg [⟨some 11, .mov (.t 4), none⟩,
    ⟨some 12, .bini .add (.t 11) (.c (.int .i64 1)), none⟩,
    ⟨some 4, .mov (.t 12), none⟩]))))))
/-- frustum/frustumref18.valueDepth -/
def p138 : PFn := { nparams := 1, ntmps := 46, nobjs := 0, pure := true, keep := false, results := [⟨2, none⟩], body := (.cln (List.range 1) (.seq (.reg [⟨some 2, .mov (.c (.int .i64 0)), none⟩])
  (.seq (.reg [⟨some 3, .mov (.c (.int .i64 0)), none⟩])
  (.seq (.seq (.reg [⟨some 4, .mov (.c (.int .i64 0)), none⟩])
  (.block 0 (p138l0)))
  (.cln [3] (.seq (.reg [⟨some 45, .mov (.t 3), none⟩,
    ⟨some 2, .mov (.t 45), none⟩])
  (.ret))))))) }
def p98l0 : PC := .loop (.cln [1, 3, 4] (.seq (.seq (.reg [⟨some 13, .mov (.t 4), none⟩,
    ⟨some 14, .faddr 7 (.t 1), none⟩,
    ⟨some 15, .load none (.t 14), none⟩,
    ⟨some 16, .lenl (.t 15), none⟩,
    ⟨some 17, .bini .lss (.t 13) (.t 16), none⟩])
  (.cond (.t 17) (.skip) (.exit 0)))
  (.cln [1, 3, 4] (.seq (.block 1 (.seq (.reg [⟨some 20, .faddr 7 (.t 1), none⟩,
    ⟨some 21, .load none (.t 20), none⟩,
    ⟨some 22, .mov (.t 4), none⟩,
    ⟨some 23, .iaddr 10 (.t 21) (.t 22), none⟩,
    ⟨some 24, .load (some 10) (.t 23), none⟩,
    ⟨some 5, .alloc 0 (.agg [.str [], .vs .nil [], .int .i64 0, .str [], .vs .nil [], .int .i64 0, .int .i64 0, .str [], .int .i64 0, .vs .nil []]), none⟩,
    ⟨none, .store (some 10) (.t 5) (.t 24), none⟩])
  (.regd [⟨0, ⟨some 25, .mov (.t 3), none⟩, false, [], []⟩,
    ⟨1, ⟨some 26, .faddr 4 (.t 5), none⟩, false, [], []⟩,
    ⟨2, ⟨some 27, .load none (.t 26), none⟩, false, [1], []⟩,
    ⟨4, ⟨some 29, .faddr 4 (.t 5), none⟩, false, [], []⟩,
    ⟨5, ⟨some 30, .load none (.t 29), none⟩, false, [4], []⟩,
    ⟨7, ⟨some 32, .faddr 5 (.t 5), none⟩, false, [], []⟩,
    ⟨8, ⟨some 33, .load (some 5) (.t 32), none⟩, false, [7], []⟩,
    ⟨3, ⟨some 28, .call (.c (.fn 137 [] [])) [.t 27], none⟩, true, [1, 2], [4, 5, 7, 8]⟩,
    ⟨6, ⟨some 31, .call (.c (.fn 138 [] [])) [.t 30], none⟩, true, [1, 2, 3, 4, 5], [7, 8]⟩,
    ⟨9, ⟨some 34, .call (.c (.fn 139 [] [])) [.t 33], none⟩, true, [1, 2, 3, 4, 5, 6, 7, 8], []⟩,
    ⟨10, ⟨some 35, .mx (.t 25) [.t 28, .t 31, .t 34], none⟩, false, .range 10, []⟩,
    ⟨11, ⟨some 3, .mov (.t 35), none⟩, true, .range 11, []⟩] (.range 12) 36)))
  (.cln [1, 3, 4] (.reg [⟨some 18, .mov (.t 4), none⟩,
    ⟨some 19, .bini .add (.t 18) (.c (.int .i64 1)), none⟩,
    ⟨some 4, .mov (.t 19), none⟩]))))))
/-- frustum/frustumref18.Depth -/
def p98 : PFn := { nparams := 1, ntmps := 37, nobjs := 1, pure := true, keep := false, results := [⟨2, none⟩], body := (.cln (List.range 1) (.seq (.reg [⟨some 1, .boxi (.t 0), none⟩,
    ⟨some 2, .mov (.c (.int .i64 0)), none⟩])
  (.seq (.regd [⟨0, ⟨some 6, .faddr 8 (.t 1), none⟩, false, [], []⟩,
    ⟨1, ⟨some 7, .load none (.t 6), none⟩, false, [0], []⟩,
    ⟨3, ⟨some 9, .faddr 8 (.t 1), none⟩, false, [], []⟩,
    ⟨4, ⟨some 10, .load none (.t 9), none⟩, false, [3], []⟩,
    ⟨2, ⟨some 8, .call (.c (.fn 137 [] [])) [.t 7], none⟩, true, [0, 1], [3, 4]⟩,
    ⟨5, ⟨some 11, .call (.c (.fn 138 [] [])) [.t 10], none⟩, true, .range 5, []⟩,
    ⟨6, ⟨some 12, .mx (.t 8) [.t 11], none⟩, false, .range 6, []⟩,
    ⟨7, ⟨some 3, .mov (.t 12), none⟩, false, .range 7, []⟩] (.range 8) 13)
  (.seq (.seq (.reg [⟨some 4, .mov (.c (.int .i64 0)), none⟩])
  (.block 0 (p98l0)))
  (.cln [3] (.seq (.reg [⟨some 36, .mov (.t 3), none⟩,
    ⟨some 2, .mov (.t 36), none⟩])
  (.ret))))))) }
/-- frustum/frustumref20.limits -/
def p65 : PFn := { nparams := 1, ntmps := 53, nobjs := 0, pure := true, keep := false, results := [⟨2, none⟩], body := (.cln (List.range 1) (.seq (.reg [⟨some 1, .boxi (.t 0), none⟩,
    ⟨some 2, .mov (.c (.int .i64 0)), none⟩])
  (.seq (.seq (.reg [⟨some 3, .load (some 9) (.t 1), none⟩,
    ⟨some 4, .call (.c (.fn 97 [] [])) [.t 3], none⟩,
    ⟨some 5, .bini .gtr (.t 4) (.c (.int .i64 1000)), none⟩,
    ⟨some 6, .mov (.t 5), none⟩,
    ⟨some 7, .load (some 9) (.t 1), some (6, false)⟩,
    ⟨some 8, .call (.c (.fn 98 [] [])) [.t 7], some (6, false)⟩,
    ⟨some 9, .bini .gtr (.t 8) (.c (.int .i64 16)), some (6, false)⟩,
    ⟨some 10, .pick (.t 6) (.c (.bool true)) (.t 9), none⟩,
    ⟨some 11, .mov (.t 10), none⟩,
    ⟨some 12, .faddr 1 (.t 1), some (11, false)⟩,
    ⟨some 13, .load none (.t 12), some (11, false)⟩,
    ⟨some 14, .lenl (.t 13), some (11, false)⟩,
    ⟨some 15, .bini .gtr (.t 14) (.c (.int .i64 16)), some (11, false)⟩,
    ⟨some 16, .pick (.t 11) (.c (.bool true)) (.t 15), none⟩,
    ⟨some 17, .mov (.t 16), none⟩,
    ⟨some 18, .faddr 2 (.t 1), some (17, false)⟩,
    ⟨some 19, .load none (.t 18), some (17, false)⟩,
    ⟨some 20, .lenl (.t 19), some (17, false)⟩,
    ⟨some 21, .bini .gtr (.t 20) (.c (.int .i64 16)), some (17, false)⟩,
    ⟨some 22, .pick (.t 17) (.c (.bool true)) (.t 21), none⟩,
    ⟨some 23, .mov (.t 22), none⟩,
    ⟨some 24, .faddr 5 (.t 1), some (23, false)⟩,
    ⟨some 25, .load none (.t 24), some (23, false)⟩,
    ⟨some 26, .lenl (.t 25), some (23, false)⟩,
    ⟨some 27, .bini .gtr (.t 26) (.c (.int .i64 16)), some (23, false)⟩,
    ⟨some 28, .pick (.t 23) (.c (.bool true)) (.t 27), none⟩,
    ⟨some 29, .mov (.t 28), none⟩,
    ⟨some 30, .faddr 6 (.t 1), some (29, false)⟩,
    ⟨some 31, .load none (.t 30), some (29, false)⟩,
    ⟨some 32, .lenl (.t 31), some (29, false)⟩,
    ⟨some 33, .bini .gtr (.t 32) (.c (.int .i64 16)), some (29, false)⟩,
    ⟨some 34, .pick (.t 29) (.c (.bool true)) (.t 33), none⟩,
    ⟨some 35, .mov (.t 34), none⟩,
    ⟨some 36, .faddr 7 (.t 1), some (35, false)⟩,
    ⟨some 37, .load none (.t 36), some (35, false)⟩,
    ⟨some 38, .lenl (.t 37), some (35, false)⟩,
    ⟨some 39, .bini .gtr (.t 38) (.c (.int .i64 16)), some (35, false)⟩,
    ⟨some 40, .pick (.t 35) (.c (.bool true)) (.t 39), none⟩,
    ⟨some 41, .mov (.t 40), none⟩,
    ⟨some 42, .faddr 3 (.t 1), some (41, false)⟩,
    ⟨some 43, .load none (.t 42), some (41, false)⟩,
    ⟨some 44, .lenl (.t 43), some (41, false)⟩,
    ⟨some 45, .bini .gtr (.t 44) (.c (.int .i64 4)), some (41, false)⟩,
    ⟨some 46, .pick (.t 41) (.c (.bool true)) (.t 45), none⟩,
    ⟨some 47, .mov (.t 46), none⟩,
    ⟨some 48, .faddr 4 (.t 1), some (47, false)⟩,
    ⟨some 49, .load none (.t 48), some (47, false)⟩,
    ⟨some 50, .lenl (.t 49), some (47, false)⟩,
    ⟨some 51, .bini .gtr (.t 50) (.c (.int .i64 4)), some (47, false)⟩,
    ⟨some 52, .pick (.t 47) (.c (.bool true)) (.t 51), none⟩])
  (.cond (.t 52) (.seq (.reg [⟨some 2, .mov (.c (.int .i64 5)), none⟩])
  (.ret)) (.skip)))
  (.cln [] (.seq (.reg [⟨some 2, .mov (.c (.int .i64 0)), none⟩])
  (.ret)))))) }
/-- frustum/frustumref06.letter -/
def p173 : PFn := { nparams := 1, ntmps := 21, nobjs := 0, pure := true, keep := false, results := [⟨2, none⟩], body := (.cln (List.range 1) (.seq (.reg [⟨some 2, .mov (.c (.bool false)), none⟩])
  (.seq (.reg [⟨some 3, .mov (.t 0), none⟩,
    ⟨some 4, .bini .geq (.t 3) (.c (.int .u8 97)), none⟩,
    ⟨some 5, .mov (.t 4), none⟩,
    ⟨some 6, .mov (.t 0), some (5, true)⟩,
    ⟨some 7, .bini .leq (.t 6) (.c (.int .u8 122)), some (5, true)⟩,
    ⟨some 8, .pick (.t 5) (.t 7) (.c (.bool false)), none⟩,
    ⟨some 9, .mov (.t 8), none⟩,
    ⟨some 10, .mov (.t 0), some (9, false)⟩,
    ⟨some 11, .bini .geq (.t 10) (.c (.int .u8 65)), some (9, false)⟩,
    ⟨some 12, .mov (.t 11), some (9, false)⟩,
    ⟨some 13, .mov (.t 0), some (12, true)⟩,
    ⟨some 14, .bini .leq (.t 13) (.c (.int .u8 90)), some (12, true)⟩,
    ⟨some 15, .pick (.t 12) (.t 14) (.c (.bool false)), some (9, false)⟩,
    ⟨some 16, .pick (.t 9) (.c (.bool true)) (.t 15), none⟩,
    ⟨some 17, .mov (.t 16), none⟩,
    ⟨some 18, .mov (.t 0), some (17, false)⟩,
    ⟨some 19, .bini .eql (.t 18) (.c (.int .u8 95)), some (17, false)⟩,
    ⟨some 20, .pick (.t 17) (.c (.bool true)) (.t 19), none⟩,
    ⟨some 2, .mov (.t 20), none⟩])
  (.ret)))) }
def p140l0 : PC := .loop (.cln [0, 3] (.seq (.seq (.reg [⟨some 18, .mov (.t 3), none⟩,
    ⟨some 19, .mov (.t 0), none⟩,
    ⟨some 20, .lens (.t 19), none⟩,
    ⟨some 21, .bini .lss (.t 18) (.t 20), none⟩])
  (.cond (.t 21) (.skip) (.exit 0)))
  (.cln [0, 3] (.seq (.block 1 (.seq (.reg [⟨some 24, .mov (.t 0), none⟩,
    ⟨some 25, .mov (.t 3), none⟩,
    ⟨some 26, .idxs (.t 24) (.t 25), none⟩,
    ⟨some 27, .call (.c (.fn 173 [] [])) [.t 26], none⟩,
    ⟨some 28, .notb (.t 27), none⟩,
    ⟨some 29, .mov (.t 28), none⟩,
    ⟨some 30, .mov (.t 0), some (29, true)⟩,
    ⟨some 31, .mov (.t 3), some (29, true)⟩,
    ⟨some 32, .idxs (.t 30) (.t 31), some (29, true)⟩,
    ⟨some 33, .bini .lss (.t 32) (.c (.int .u8 48)), some (29, true)⟩,
    ⟨some 34, .mov (.t 33), some (29, true)⟩,
    ⟨some 35, .mov (.t 0), some (34, false)⟩,
    ⟨some 36, .mov (.t 3), some (34, false)⟩,
    ⟨some 37, .idxs (.t 35) (.t 36), some (34, false)⟩,
    ⟨some 38, .bini .gtr (.t 37) (.c (.int .u8 57)), some (34, false)⟩,
    ⟨some 39, .pick (.t 34) (.c (.bool true)) (.t 38), some (29, true)⟩,
    ⟨some 40, .pick (.t 29) (.t 39) (.c (.bool false)), none⟩])
  (.cond (.t 40) (.seq (.reg [⟨some 2, .mov (.c (.bool false)), none⟩])
  (.ret)) (.skip))))
  (.cln [0, 3] (.reg [⟨some 22, .mov (.t 3), none⟩,
    ⟨some 23, .bini .add (.t 22) (.c (.int .i64 1)), none⟩,
    ⟨some 3, .mov (.t 23), none⟩]))))))
/-- frustum/frustumref06.IsName -/
def p140 : PFn := { nparams := 1, ntmps := 41, nobjs := 0, pure := true, keep := false, results := [⟨2, none⟩], body := (.cln (List.range 1) (.seq (.reg [⟨some 2, .mov (.c (.bool false)), none⟩])
  (.seq (.seq (.reg [⟨some 4, .mov (.t 0), none⟩,
    ⟨some 5, .lens (.t 4), none⟩,
    ⟨some 6, .bini .lss (.t 5) (.c (.int .i64 1)), none⟩,
    ⟨some 7, .mov (.t 6), none⟩,
    ⟨some 8, .mov (.t 0), some (7, false)⟩,
    ⟨some 9, .lens (.t 8), some (7, false)⟩,
    ⟨some 10, .bini .gtr (.t 9) (.c (.int .i64 16)), some (7, false)⟩,
    ⟨some 11, .pick (.t 7) (.c (.bool true)) (.t 10), none⟩,
    ⟨some 12, .mov (.t 11), none⟩,
    ⟨some 13, .mov (.t 0), some (12, false)⟩,
    ⟨some 14, .idxs (.t 13) (.c (.int .i64 0)), some (12, false)⟩,
    ⟨some 15, .call (.c (.fn 173 [] [])) [.t 14], some (12, false)⟩,
    ⟨some 16, .notb (.t 15), some (12, false)⟩,
    ⟨some 17, .pick (.t 12) (.c (.bool true)) (.t 16), none⟩])
  (.cond (.t 17) (.seq (.reg [⟨some 2, .mov (.c (.bool false)), none⟩])
  (.ret)) (.skip)))
  (.cln [0] (.seq (.seq (.reg [⟨some 3, .mov (.c (.int .i64 1)), none⟩])
  (.block 0 (p140l0)))
  (.cln [] (.seq (.reg [⟨some 2, .mov (.c (.bool true)), none⟩])
  (.ret)))))))) }
/-- frustum/frustumref17.IsTypeWord -/
def p174 : PFn := { nparams := 1, ntmps := 29, nobjs := 0, pure := true, keep := false, results := [⟨2, none⟩], body := (.cln (List.range 1) (.seq (.reg [⟨some 2, .mov (.c (.bool false)), none⟩])
  (.seq (.reg [⟨some 3, .mov (.t 0), none⟩,
    ⟨some 4, .bins .eql (.t 3) (.c (.str [102, 105, 120, 101, 100])), none⟩,
    ⟨some 5, .mov (.t 4), none⟩,
    ⟨some 6, .mov (.t 0), some (5, false)⟩,
    ⟨some 7, .bins .eql (.t 6) (.c (.str [104, 97, 108, 102])), some (5, false)⟩,
    ⟨some 8, .pick (.t 5) (.c (.bool true)) (.t 7), none⟩,
    ⟨some 9, .mov (.t 8), none⟩,
    ⟨some 10, .mov (.t 0), some (9, false)⟩,
    ⟨some 11, .bins .eql (.t 10) (.c (.str [105, 110, 116])), some (9, false)⟩,
    ⟨some 12, .pick (.t 9) (.c (.bool true)) (.t 11), none⟩,
    ⟨some 13, .mov (.t 12), none⟩,
    ⟨some 14, .mov (.t 0), some (13, false)⟩,
    ⟨some 15, .bins .eql (.t 14) (.c (.str [98, 111, 111, 108])), some (13, false)⟩,
    ⟨some 16, .pick (.t 13) (.c (.bool true)) (.t 15), none⟩,
    ⟨some 17, .mov (.t 16), none⟩,
    ⟨some 18, .mov (.t 0), some (17, false)⟩,
    ⟨some 19, .bins .eql (.t 18) (.c (.str [118, 101, 99, 50])), some (17, false)⟩,
    ⟨some 20, .pick (.t 17) (.c (.bool true)) (.t 19), none⟩,
    ⟨some 21, .mov (.t 20), none⟩,
    ⟨some 22, .mov (.t 0), some (21, false)⟩,
    ⟨some 23, .bins .eql (.t 22) (.c (.str [118, 101, 99, 51])), some (21, false)⟩,
    ⟨some 24, .pick (.t 21) (.c (.bool true)) (.t 23), none⟩,
    ⟨some 25, .mov (.t 24), none⟩,
    ⟨some 26, .mov (.t 0), some (25, false)⟩,
    ⟨some 27, .bins .eql (.t 26) (.c (.str [118, 101, 99, 52])), some (25, false)⟩,
    ⟨some 28, .pick (.t 25) (.c (.bool true)) (.t 27), none⟩,
    ⟨some 2, .mov (.t 28), none⟩])
  (.ret)))) }
/-- frustum/frustumref17.IsKeyword -/
def p141 : PFn := { nparams := 1, ntmps := 32, nobjs := 0, pure := true, keep := false, results := [⟨2, none⟩], body := (.cln (List.range 1) (.seq (.reg [⟨some 2, .mov (.c (.bool false)), none⟩])
  (.seq (.seq (.reg [⟨some 3, .mov (.t 0), none⟩])
  (.block 0 (.seq (.seq (.reg [⟨some 5, .bins .eql (.t 3) (.c (.str [115, 104, 97, 100, 101, 114])), none⟩,
    ⟨some 4, .mov (.t 5), none⟩])
  (.cond (.t 4) (.skip) (.seq (.reg [⟨some 6, .bins .eql (.t 3) (.c (.str [118, 101, 114, 116, 101, 120])), none⟩,
    ⟨some 4, .mov (.t 6), none⟩])
  (.cond (.t 4) (.skip) (.seq (.reg [⟨some 7, .bins .eql (.t 3) (.c (.str [103, 101, 111, 109, 101, 116, 114, 121])), none⟩,
    ⟨some 4, .mov (.t 7), none⟩])
  (.cond (.t 4) (.skip) (.seq (.reg [⟨some 8, .bins .eql (.t 3) (.c (.str [102, 114, 97, 103, 109, 101, 110, 116])), none⟩,
    ⟨some 4, .mov (.t 8), none⟩])
  (.cond (.t 4) (.skip) (.seq (.reg [⟨some 9, .bins .eql (.t 3) (.c (.str [115, 116, 114, 117, 99, 116])), none⟩,
    ⟨some 4, .mov (.t 9), none⟩])
  (.cond (.t 4) (.skip) (.seq (.reg [⟨some 10, .bins .eql (.t 3) (.c (.str [117, 110, 105, 102, 111, 114, 109])), none⟩,
    ⟨some 4, .mov (.t 10), none⟩])
  (.cond (.t 4) (.skip) (.seq (.reg [⟨some 11, .bins .eql (.t 3) (.c (.str [116, 101, 120, 116, 117, 114, 101])), none⟩,
    ⟨some 4, .mov (.t 11), none⟩])
  (.cond (.t 4) (.skip) (.seq (.reg [⟨some 12, .bins .eql (.t 3) (.c (.str [98, 117, 102, 102, 101, 114])), none⟩,
    ⟨some 4, .mov (.t 12), none⟩])
  (.cond (.t 4) (.skip) (.seq (.reg [⟨some 13, .bins .eql (.t 3) (.c (.str [105, 110])), none⟩,
    ⟨some 4, .mov (.t 13), none⟩])
  (.cond (.t 4) (.skip) (.seq (.reg [⟨some 14, .bins .eql (.t 3) (.c (.str [111, 117, 116])), none⟩,
    ⟨some 4, .mov (.t 14), none⟩])
  (.cond (.t 4) (.skip) (.seq (.reg [⟨some 15, .bins .eql (.t 3) (.c (.str [102, 110])), none⟩,
    ⟨some 4, .mov (.t 15), none⟩])
  (.cond (.t 4) (.skip) (.seq (.reg [⟨some 16, .bins .eql (.t 3) (.c (.str [114, 101, 116, 117, 114, 110])), none⟩,
    ⟨some 4, .mov (.t 16), none⟩])
  (.cond (.t 4) (.skip) (.reg [⟨some 17, .bins .eql (.t 3) (.c (.str [109, 97, 105, 110])), none⟩,
    ⟨some 4, .mov (.t 17), none⟩])))))))))))))))))))))))))
  (.cln [0, 3, 4] (.cond (.t 4) (.seq (.reg [⟨some 2, .mov (.c (.bool true)), none⟩])
  (.ret)) (.seq (.seq (.reg [⟨some 19, .bins .eql (.t 3) (.c (.str [108, 101, 116])), none⟩,
    ⟨some 18, .mov (.t 19), none⟩])
  (.cond (.t 18) (.skip) (.seq (.reg [⟨some 20, .bins .eql (.t 3) (.c (.str [105, 102])), none⟩,
    ⟨some 18, .mov (.t 20), none⟩])
  (.cond (.t 18) (.skip) (.seq (.reg [⟨some 21, .bins .eql (.t 3) (.c (.str [101, 108, 115, 101])), none⟩,
    ⟨some 18, .mov (.t 21), none⟩])
  (.cond (.t 18) (.skip) (.seq (.reg [⟨some 22, .bins .eql (.t 3) (.c (.str [108, 111, 111, 112])), none⟩,
    ⟨some 18, .mov (.t 22), none⟩])
  (.cond (.t 18) (.skip) (.seq (.reg [⟨some 23, .bins .eql (.t 3) (.c (.str [98, 114, 101, 97, 107])), none⟩,
    ⟨some 18, .mov (.t 23), none⟩])
  (.cond (.t 18) (.skip) (.seq (.reg [⟨some 24, .bins .eql (.t 3) (.c (.str [99, 111, 110, 116, 105, 110, 117, 101])), none⟩,
    ⟨some 18, .mov (.t 24), none⟩])
  (.cond (.t 18) (.skip) (.seq (.reg [⟨some 25, .bins .eql (.t 3) (.c (.str [100, 105, 115, 99, 97, 114, 100])), none⟩,
    ⟨some 18, .mov (.t 25), none⟩])
  (.cond (.t 18) (.skip) (.seq (.reg [⟨some 26, .bins .eql (.t 3) (.c (.str [101, 109, 105, 116])), none⟩,
    ⟨some 18, .mov (.t 26), none⟩])
  (.cond (.t 18) (.skip) (.seq (.reg [⟨some 27, .bins .eql (.t 3) (.c (.str [99, 117, 116])), none⟩,
    ⟨some 18, .mov (.t 27), none⟩])
  (.cond (.t 18) (.skip) (.seq (.reg [⟨some 28, .bins .eql (.t 3) (.c (.str [116, 114, 117, 101])), none⟩,
    ⟨some 18, .mov (.t 28), none⟩])
  (.cond (.t 18) (.skip) (.reg [⟨some 29, .bins .eql (.t 3) (.c (.str [102, 97, 108, 115, 101])), none⟩,
    ⟨some 18, .mov (.t 29), none⟩])))))))))))))))))))))
  (.cln [0, 18] (.cond (.t 18) (.seq (.reg [⟨some 2, .mov (.c (.bool true)), none⟩])
  (.ret)) (.skip)))))))))
  (.cln [0] (.seq (.reg [⟨some 30, .mov (.t 0), none⟩,
    ⟨some 31, .call (.c (.fn 174 [] [])) [.t 30], none⟩,
    ⟨some 2, .mov (.t 31), none⟩])
  (.ret)))))) }
/-- frustum/frustumref20.arity -/
def p112 : PFn := { nparams := 1, ntmps := 22, nobjs := 0, pure := true, keep := false, results := [⟨2, none⟩], body := (.cln (List.range 1) (.seq (.reg [⟨some 2, .mov (.c (.int .i64 0)), none⟩])
  (.seq (.seq (.reg [⟨some 3, .mov (.t 0), none⟩])
  (.block 0 (.seq (.seq (.reg [⟨some 5, .bins .eql (.t 3) (.c (.str [97, 98, 115])), none⟩,
    ⟨some 4, .mov (.t 5), none⟩])
  (.cond (.t 4) (.skip) (.seq (.reg [⟨some 6, .bins .eql (.t 3) (.c (.str [102, 108, 111, 111, 114])), none⟩,
    ⟨some 4, .mov (.t 6), none⟩])
  (.cond (.t 4) (.skip) (.seq (.reg [⟨some 7, .bins .eql (.t 3) (.c (.str [102, 114, 97, 99, 116])), none⟩,
    ⟨some 4, .mov (.t 7), none⟩])
  (.cond (.t 4) (.skip) (.seq (.reg [⟨some 8, .bins .eql (.t 3) (.c (.str [115, 113, 114, 116])), none⟩,
    ⟨some 4, .mov (.t 8), none⟩])
  (.cond (.t 4) (.skip) (.seq (.reg [⟨some 9, .bins .eql (.t 3) (.c (.str [100, 100, 120])), none⟩,
    ⟨some 4, .mov (.t 9), none⟩])
  (.cond (.t 4) (.skip) (.reg [⟨some 10, .bins .eql (.t 3) (.c (.str [100, 100, 121])), none⟩,
    ⟨some 4, .mov (.t 10), none⟩])))))))))))
  (.cln [3, 4] (.cond (.t 4) (.seq (.reg [⟨some 2, .mov (.c (.int .i64 1)), none⟩])
  (.ret)) (.seq (.seq (.reg [⟨some 12, .bins .eql (.t 3) (.c (.str [109, 105, 110])), none⟩,
    ⟨some 11, .mov (.t 12), none⟩])
  (.cond (.t 11) (.skip) (.seq (.reg [⟨some 13, .bins .eql (.t 3) (.c (.str [109, 97, 120])), none⟩,
    ⟨some 11, .mov (.t 13), none⟩])
  (.cond (.t 11) (.skip) (.seq (.reg [⟨some 14, .bins .eql (.t 3) (.c (.str [100, 111, 116])), none⟩,
    ⟨some 11, .mov (.t 14), none⟩])
  (.cond (.t 11) (.skip) (.reg [⟨some 15, .bins .eql (.t 3) (.c (.str [108, 111, 97, 100])), none⟩,
    ⟨some 11, .mov (.t 15), none⟩])))))))
  (.cln [3, 11] (.cond (.t 11) (.seq (.reg [⟨some 2, .mov (.c (.int .i64 2)), none⟩])
  (.ret)) (.seq (.seq (.reg [⟨some 17, .bins .eql (.t 3) (.c (.str [99, 108, 97, 109, 112])), none⟩,
    ⟨some 16, .mov (.t 17), none⟩])
  (.cond (.t 16) (.skip) (.seq (.reg [⟨some 18, .bins .eql (.t 3) (.c (.str [109, 105, 120])), none⟩,
    ⟨some 16, .mov (.t 18), none⟩])
  (.cond (.t 16) (.skip) (.reg [⟨some 19, .bins .eql (.t 3) (.c (.str [115, 97, 109, 112, 108, 101])), none⟩,
    ⟨some 16, .mov (.t 19), none⟩])))))
  (.cln [3, 16] (.cond (.t 16) (.seq (.reg [⟨some 2, .mov (.c (.int .i64 3)), none⟩])
  (.ret)) (.seq (.reg [⟨some 21, .bins .eql (.t 3) (.c (.str [102, 101, 116, 99, 104])), none⟩,
    ⟨some 20, .mov (.t 21), none⟩])
  (.cond (.t 20) (.seq (.reg [⟨some 2, .mov (.c (.int .i64 4)), none⟩])
  (.ret)) (.skip))))))))))))))
  (.cln [] (.seq (.reg [⟨some 2, .mov (.c (.int .i64 (-1))), none⟩])
  (.ret)))))) }
/-- frustum/frustumref20.nameOK -/
def p99 : PFn := { nparams := 1, ntmps := 15, nobjs := 0, pure := true, keep := false, results := [⟨2, none⟩], body := (.cln (List.range 1) (.seq (.reg [⟨some 2, .mov (.c (.bool false)), none⟩])
  (.seq (.reg [⟨some 3, .mov (.t 0), none⟩,
    ⟨some 4, .call (.c (.fn 140 [] [])) [.t 3], none⟩,
    ⟨some 5, .mov (.t 4), none⟩,
    ⟨some 6, .mov (.t 0), some (5, true)⟩,
    ⟨some 7, .call (.c (.fn 141 [] [])) [.t 6], some (5, true)⟩,
    ⟨some 8, .notb (.t 7), some (5, true)⟩,
    ⟨some 9, .pick (.t 5) (.t 8) (.c (.bool false)), none⟩,
    ⟨some 10, .mov (.t 9), none⟩,
    ⟨some 11, .mov (.t 0), some (10, true)⟩,
    ⟨some 12, .call (.c (.fn 112 [] [])) [.t 11], some (10, true)⟩,
    ⟨some 13, .bini .lss (.t 12) (.c (.int .i64 0)), some (10, true)⟩,
    ⟨some 14, .pick (.t 10) (.t 13) (.c (.bool false)), none⟩,
    ⟨some 2, .mov (.t 14), none⟩])
  (.ret)))) }
def p100l0 : PC := .loop (.cln [1, 2, 5] (.seq (.seq (.reg [⟨some 6, .mov (.t 5), none⟩,
    ⟨some 7, .faddr 1 (.t 2), none⟩,
    ⟨some 8, .load none (.t 7), none⟩,
    ⟨some 9, .lenl (.t 8), none⟩,
    ⟨some 10, .bini .lss (.t 6) (.t 9), none⟩])
  (.cond (.t 10) (.skip) (.exit 0)))
  (.cln [1, 2, 5] (.seq (.block 1 (.seq (.reg [⟨some 13, .faddr 1 (.t 2), none⟩,
    ⟨some 14, .load none (.t 13), none⟩,
    ⟨some 15, .mov (.t 5), none⟩,
    ⟨some 16, .iaddr 2 (.t 14) (.t 15), none⟩,
    ⟨some 17, .faddr 0 (.t 16), none⟩,
    ⟨some 18, .load none (.t 17), none⟩,
    ⟨some 19, .mov (.t 1), none⟩,
    ⟨some 20, .bins .eql (.t 18) (.t 19), none⟩])
  (.cond (.t 20) (.seq (.reg [⟨some 21, .mov (.t 5), none⟩,
    ⟨some 4, .mov (.t 21), none⟩])
  (.ret)) (.skip))))
  (.cln [1, 2, 5] (.reg [⟨some 11, .mov (.t 5), none⟩,
    ⟨some 12, .bini .add (.t 11) (.c (.int .i64 1)), none⟩,
    ⟨some 5, .mov (.t 12), none⟩]))))))
/-- frustum/frustumref20.FindStruct -/
def p100 : PFn := { nparams := 2, ntmps := 22, nobjs := 0, pure := true, keep := false, results := [⟨4, none⟩], body := (.cln (List.range 2) (.seq (.reg [⟨some 2, .boxi (.t 0), none⟩,
    ⟨some 4, .mov (.c (.int .i64 0)), none⟩])
  (.seq (.seq (.reg [⟨some 5, .mov (.c (.int .i64 0)), none⟩])
  (.block 0 (p100l0)))
  (.cln [] (.seq (.reg [⟨some 4, .mov (.c (.int .i64 (-1))), none⟩])
  (.ret)))))) }
def p101l0 : PC := .loop (.cln [0, 1, 5] (.seq (.seq (.reg [⟨some 6, .mov (.t 5), none⟩,
    ⟨some 7, .mov (.t 0), none⟩,
    ⟨some 8, .lenl (.t 7), none⟩,
    ⟨some 9, .bini .lss (.t 6) (.t 8), none⟩])
  (.cond (.t 9) (.skip) (.exit 0)))
  (.cln [0, 1, 5] (.seq (.block 1 (.seq (.reg [⟨some 12, .mov (.t 0), none⟩,
    ⟨some 13, .mov (.t 5), none⟩,
    ⟨some 14, .iaddr 3 (.t 12) (.t 13), none⟩,
    ⟨some 15, .faddr 0 (.t 14), none⟩,
    ⟨some 16, .load none (.t 15), none⟩,
    ⟨some 17, .mov (.t 1), none⟩,
    ⟨some 18, .bins .eql (.t 16) (.t 17), none⟩])
  (.cond (.t 18) (.seq (.reg [⟨some 19, .mov (.t 5), none⟩,
    ⟨some 4, .mov (.t 19), none⟩])
  (.ret)) (.skip))))
  (.cln [0, 1, 5] (.reg [⟨some 10, .mov (.t 5), none⟩,
    ⟨some 11, .bini .add (.t 10) (.c (.int .i64 1)), none⟩,
    ⟨some 5, .mov (.t 11), none⟩]))))))
/-- frustum/frustumref20.find -/
def p101 : PFn := { nparams := 2, ntmps := 20, nobjs := 0, pure := true, keep := false, results := [⟨4, none⟩], body := (.cln (List.range 2) (.seq (.reg [⟨some 4, .mov (.c (.int .i64 0)), none⟩])
  (.seq (.seq (.reg [⟨some 5, .mov (.c (.int .i64 0)), none⟩])
  (.block 0 (p101l0)))
  (.cln [] (.seq (.reg [⟨some 4, .mov (.c (.int .i64 (-1))), none⟩])
  (.ret)))))) }
/-- frustum/frustumref20.IsScalar -/
def p175 : PFn := { nparams := 1, ntmps := 11, nobjs := 0, pure := true, keep := false, results := [⟨2, none⟩], body := (.cln (List.range 1) (.seq (.reg [⟨some 1, .boxi (.t 0), none⟩,
    ⟨some 2, .mov (.c (.bool false)), none⟩])
  (.seq (.reg [⟨some 3, .faddr 0 (.t 1), none⟩,
    ⟨some 4, .load none (.t 3), none⟩,
    ⟨some 5, .bini .geq (.t 4) (.c (.int .i64 1)), none⟩,
    ⟨some 6, .mov (.t 5), none⟩,
    ⟨some 7, .faddr 0 (.t 1), some (6, true)⟩,
    ⟨some 8, .load none (.t 7), some (6, true)⟩,
    ⟨some 9, .bini .leq (.t 8) (.c (.int .i64 4)), some (6, true)⟩,
    ⟨some 10, .pick (.t 6) (.t 9) (.c (.bool false)), none⟩,
    ⟨some 2, .mov (.t 10), none⟩])
  (.ret)))) }
/-- frustum/frustumref20.IsVector -/
def p153 : PFn := { nparams := 1, ntmps := 11, nobjs := 0, pure := true, keep := false, results := [⟨2, none⟩], body := (.cln (List.range 1) (.seq (.reg [⟨some 1, .boxi (.t 0), none⟩,
    ⟨some 2, .mov (.c (.bool false)), none⟩])
  (.seq (.reg [⟨some 3, .faddr 0 (.t 1), none⟩,
    ⟨some 4, .load none (.t 3), none⟩,
    ⟨some 5, .bini .geq (.t 4) (.c (.int .i64 5)), none⟩,
    ⟨some 6, .mov (.t 5), none⟩,
    ⟨some 7, .faddr 0 (.t 1), some (6, true)⟩,
    ⟨some 8, .load none (.t 7), some (6, true)⟩,
    ⟨some 9, .bini .leq (.t 8) (.c (.int .i64 7)), some (6, true)⟩,
    ⟨some 10, .pick (.t 6) (.t 9) (.c (.bool false)), none⟩,
    ⟨some 2, .mov (.t 10), none⟩])
  (.ret)))) }
/-- frustum/frustumref20.plain -/
def p142 : PFn := { nparams := 1, ntmps := 14, nobjs := 0, pure := true, keep := false, results := [⟨2, none⟩], body := (.cln (List.range 1) (.seq (.reg [⟨some 1, .boxi (.t 0), none⟩,
    ⟨some 2, .mov (.c (.bool false)), none⟩])
  (.seq (.reg [⟨some 3, .load (some 2) (.t 1), none⟩,
    ⟨some 4, .call (.c (.fn 175 [] [])) [.t 3], none⟩,
    ⟨some 5, .mov (.t 4), none⟩,
    ⟨some 6, .load (some 2) (.t 1), some (5, false)⟩,
    ⟨some 7, .call (.c (.fn 153 [] [])) [.t 6], some (5, false)⟩,
    ⟨some 8, .pick (.t 5) (.c (.bool true)) (.t 7), none⟩,
    ⟨some 9, .mov (.t 8), none⟩,
    ⟨some 10, .faddr 1 (.t 1), some (9, true)⟩,
    ⟨some 11, .load none (.t 10), some (9, true)⟩,
    ⟨some 12, .bins .eql (.t 11) (.c (.str [])), some (9, true)⟩,
    ⟨some 13, .pick (.t 9) (.t 12) (.c (.bool false)), none⟩,
    ⟨some 2, .mov (.t 13), none⟩])
  (.ret)))) }
/-- frustum/frustumref20.valid -/
def p102 : PFn := { nparams := 3, ntmps := 24, nobjs := 0, pure := true, keep := false, results := [⟨6, none⟩], body := (.cln (List.range 3) (.seq (.reg [⟨some 3, .boxi (.t 0), none⟩,
    ⟨some 4, .boxi (.t 1), none⟩,
    ⟨some 6, .mov (.c (.bool false)), none⟩])
  (.seq (.seq (.reg [⟨some 8, .faddr 0 (.t 4), none⟩,
    ⟨some 9, .load none (.t 8), none⟩,
    ⟨some 10, .bini .eql (.t 9) (.c (.int .i64 8)), none⟩])
  (.cond (.t 10) (.seq (.reg [⟨some 11, .load (some 9) (.t 3), none⟩,
    ⟨some 12, .faddr 1 (.t 4), none⟩,
    ⟨some 13, .load none (.t 12), none⟩,
    ⟨some 14, .call (.c (.fn 100 [] [])) [.t 11, .t 13], none⟩,
    ⟨some 7, .mov (.t 14), none⟩])
  (.seq (.reg [⟨some 15, .mov (.t 7), none⟩,
    ⟨some 16, .bini .geq (.t 15) (.c (.int .i64 0)), none⟩,
    ⟨some 17, .mov (.t 16), none⟩,
    ⟨some 18, .mov (.t 7), some (17, true)⟩,
    ⟨some 19, .mov (.t 2), some (17, true)⟩,
    ⟨some 20, .bini .lss (.t 18) (.t 19), some (17, true)⟩,
    ⟨some 21, .pick (.t 17) (.t 20) (.c (.bool false)), none⟩,
    ⟨some 6, .mov (.t 21), none⟩])
  (.ret))) (.skip)))
  (.cln [4] (.seq (.reg [⟨some 22, .load (some 2) (.t 4), none⟩,
    ⟨some 23, .call (.c (.fn 142 [] [])) [.t 22], none⟩,
    ⟨some 6, .mov (.t 23), none⟩])
  (.ret)))))) }
def p66l1 : PC := .loop (.cln [1, 3, 4, 5] (.seq (.seq (.reg [⟨some 40, .mov (.t 5), none⟩,
    ⟨some 41, .faddr 1 (.t 4), none⟩,
    ⟨some 42, .load none (.t 41), none⟩,
    ⟨some 43, .lenl (.t 42), none⟩,
    ⟨some 44, .bini .lss (.t 40) (.t 43), none⟩])
  (.cond (.t 44) (.skip) (.exit 2)))
  (.cln [1, 3, 4, 5] (.seq (.block 3 (.seq (.seq (.regd [⟨0, ⟨some 47, .faddr 1 (.t 4), none⟩, false, [], []⟩,
    ⟨1, ⟨some 48, .load none (.t 47), none⟩, false, [0], []⟩,
    ⟨2, ⟨some 49, .mov (.t 5), none⟩, false, [], []⟩,
    ⟨3, ⟨some 50, .iaddr 3 (.t 48) (.t 49), none⟩, false, [0, 1, 2], []⟩,
    ⟨4, ⟨some 51, .faddr 0 (.t 50), none⟩, false, [0, 1, 2, 3], []⟩,
    ⟨5, ⟨some 52, .load none (.t 51), none⟩, false, .range 5, []⟩,
    ⟨6, ⟨some 53, .call (.c (.fn 99 [] [])) [.t 52], none⟩, true, .range 6, []⟩,
    ⟨7, ⟨some 54, .notb (.t 53), none⟩, false, .range 7, []⟩,
    ⟨8, ⟨some 55, .mov (.t 54), none⟩, false, .range 8, []⟩,
    ⟨9, ⟨some 56, .faddr 1 (.t 4), some (55, false)⟩, false, .range 9, []⟩,
    ⟨10, ⟨some 57, .load none (.t 56), some (55, false)⟩, false, .range 10, []⟩,
    ⟨11, ⟨some 58, .faddr 1 (.t 4), some (55, false)⟩, false, .range 9, []⟩,
    ⟨12, ⟨some 59, .load none (.t 58), some (55, false)⟩, false, (.range 9 ++ [11]), []⟩,
    ⟨13, ⟨some 60, .mov (.t 5), some (55, false)⟩, false, .range 9, []⟩,
    ⟨14, ⟨some 61, .iaddr 3 (.t 59) (.t 60), some (55, false)⟩, false, (.range 9 ++ [11, 12, 13]), []⟩,
    ⟨15, ⟨some 62, .faddr 0 (.t 61), some (55, false)⟩, false, (.range 9 ++ [11, 12, 13, 14]), []⟩,
    ⟨16, ⟨some 63, .load none (.t 62), some (55, false)⟩, false, (.range 9 ++ [11, 12, 13, 14, 15]), []⟩,
    ⟨18, ⟨some 65, .mov (.t 5), some (55, false)⟩, false, .range 9, []⟩,
    ⟨17, ⟨some 64, .call (.c (.fn 101 [] [])) [.t 57, .t 63], some (55, false)⟩, true, .range 17, []⟩,
    ⟨19, ⟨some 66, .bini .lss (.t 64) (.t 65), some (55, false)⟩, false, .range 19, []⟩,
    ⟨20, ⟨some 67, .pick (.t 55) (.c (.bool true)) (.t 66), none⟩, false, .range 20, []⟩] (.range 21) 68)
  (.cond (.t 67) (.seq (.reg [⟨some 2, .mov (.c (.int .i64 13)), none⟩])
  (.ret)) (.skip)))
  (.cln [1, 3, 4, 5] (.seq (.regd [⟨0, ⟨some 68, .load (some 9) (.t 1), none⟩, false, [], []⟩,
    ⟨1, ⟨some 69, .faddr 1 (.t 4), none⟩, false, [], []⟩,
    ⟨2, ⟨some 70, .load none (.t 69), none⟩, false, [1], []⟩,
    ⟨3, ⟨some 71, .mov (.t 5), none⟩, false, [], []⟩,
    ⟨4, ⟨some 72, .iaddr 3 (.t 70) (.t 71), none⟩, false, [1, 2, 3], []⟩,
    ⟨5, ⟨some 73, .faddr 1 (.t 72), none⟩, false, [1, 2, 3, 4], []⟩,
    ⟨6, ⟨some 74, .load (some 2) (.t 73), none⟩, false, [1, 2, 3, 4, 5], []⟩,
    ⟨7, ⟨some 75, .mov (.t 3), none⟩, false, [], []⟩,
    ⟨8, ⟨some 76, .call (.c (.fn 102 [] [])) [.t 68, .t 74, .t 75], none⟩, true, .range 8, []⟩,
    ⟨9, ⟨some 77, .notb (.t 76), none⟩, false, .range 9, []⟩] (.range 10) 78)
  (.cond (.t 77) (.seq (.reg [⟨some 2, .mov (.c (.int .i64 12)), none⟩])
  (.ret)) (.skip))))))
  (.cln [1, 3, 4, 5] (.reg [⟨some 45, .mov (.t 5), none⟩,
    ⟨some 46, .bini .add (.t 45) (.c (.int .i64 1)), none⟩,
    ⟨some 5, .mov (.t 46), none⟩]))))))
def p66l0 : PC := .loop (.cln [1, 3] (.seq (.seq (.reg [⟨some 6, .mov (.t 3), none⟩,
    ⟨some 7, .faddr 1 (.t 1), none⟩,
    ⟨some 8, .load none (.t 7), none⟩,
    ⟨some 9, .lenl (.t 8), none⟩,
    ⟨some 10, .bini .lss (.t 6) (.t 9), none⟩])
  (.cond (.t 10) (.skip) (.exit 0)))
  (.cln [1, 3] (.seq (.block 1 (.seq (.reg [⟨some 13, .faddr 1 (.t 1), none⟩,
    ⟨some 14, .load none (.t 13), none⟩,
    ⟨some 15, .mov (.t 3), none⟩,
    ⟨some 16, .iaddr 2 (.t 14) (.t 15), none⟩,
    ⟨some 17, .load (some 2) (.t 16), none⟩,
    ⟨some 4, .alloc 0 (.agg [.str [], .vs .nil []]), none⟩,
    ⟨none, .store (some 2) (.t 4) (.t 17), none⟩])
  (.seq (.seq (.reg [⟨some 18, .faddr 0 (.t 4), none⟩,
    ⟨some 19, .load none (.t 18), none⟩,
    ⟨some 20, .call (.c (.fn 99 [] [])) [.t 19], none⟩,
    ⟨some 21, .notb (.t 20), none⟩,
    ⟨some 22, .mov (.t 21), none⟩,
    ⟨some 23, .load (some 9) (.t 1), some (22, false)⟩,
    ⟨some 24, .faddr 0 (.t 4), some (22, false)⟩,
    ⟨some 25, .load none (.t 24), some (22, false)⟩,
    ⟨some 26, .call (.c (.fn 100 [] [])) [.t 23, .t 25], some (22, false)⟩,
    ⟨some 27, .mov (.t 3), some (22, false)⟩,
    ⟨some 28, .bini .lss (.t 26) (.t 27), some (22, false)⟩,
    ⟨some 29, .pick (.t 22) (.c (.bool true)) (.t 28), none⟩])
  (.cond (.t 29) (.seq (.reg [⟨some 2, .mov (.c (.int .i64 13)), none⟩])
  (.ret)) (.skip)))
  (.cln [1, 3, 4] (.seq (.seq (.reg [⟨some 30, .faddr 1 (.t 4), none⟩,
    ⟨some 31, .load none (.t 30), none⟩,
    ⟨some 32, .lenl (.t 31), none⟩,
    ⟨some 33, .bini .lss (.t 32) (.c (.int .i64 1)), none⟩,
    ⟨some 34, .mov (.t 33), none⟩,
    ⟨some 35, .faddr 1 (.t 4), some (34, false)⟩,
    ⟨some 36, .load none (.t 35), some (34, false)⟩,
    ⟨some 37, .lenl (.t 36), some (34, false)⟩,
    ⟨some 38, .bini .gtr (.t 37) (.c (.int .i64 16)), some (34, false)⟩,
    ⟨some 39, .pick (.t 34) (.c (.bool true)) (.t 38), none⟩])
  (.cond (.t 39) (.seq (.reg [⟨some 2, .mov (.c (.int .i64 11)), none⟩])
  (.ret)) (.skip)))
  (.cln [1, 3, 4] (.seq (.reg [⟨some 5, .mov (.c (.int .i64 0)), none⟩])
  (.block 2 (p66l1)))))))))
  (.cln [1, 3] (.reg [⟨some 11, .mov (.t 3), none⟩,
    ⟨some 12, .bini .add (.t 11) (.c (.int .i64 1)), none⟩,
    ⟨some 3, .mov (.t 12), none⟩]))))))
/-- frustum/frustumref20.structs -/
def p66 : PFn := { nparams := 1, ntmps := 78, nobjs := 1, pure := true, keep := false, results := [⟨2, none⟩], body := (.cln (List.range 1) (.seq (.reg [⟨some 1, .boxi (.t 0), none⟩,
    ⟨some 2, .mov (.c (.int .i64 0)), none⟩])
  (.seq (.seq (.reg [⟨some 3, .mov (.c (.int .i64 0)), none⟩])
  (.block 0 (p66l0)))
  (.cln [] (.seq (.reg [⟨some 2, .mov (.c (.int .i64 0)), none⟩])
  (.ret)))))) }
def p143l0 : PC := .loop (.cln [0, 1, 5] (.seq (.seq (.reg [⟨some 6, .mov (.t 5), none⟩,
    ⟨some 7, .mov (.t 0), none⟩,
    ⟨some 8, .lenl (.t 7), none⟩,
    ⟨some 9, .bini .lss (.t 6) (.t 8), none⟩])
  (.cond (.t 9) (.skip) (.exit 0)))
  (.cln [0, 1, 5] (.seq (.block 1 (.seq (.reg [⟨some 12, .mov (.t 0), none⟩,
    ⟨some 13, .mov (.t 5), none⟩,
    ⟨some 14, .iaddr 1 (.t 12) (.t 13), none⟩,
    ⟨some 15, .load none (.t 14), none⟩,
    ⟨some 16, .mov (.t 1), none⟩,
    ⟨some 17, .bins .eql (.t 15) (.t 16), none⟩])
  (.cond (.t 17) (.seq (.reg [⟨some 4, .mov (.c (.bool true)), none⟩])
  (.ret)) (.skip))))
  (.cln [0, 1, 5] (.reg [⟨some 10, .mov (.t 5), none⟩,
    ⟨some 11, .bini .add (.t 10) (.c (.int .i64 1)), none⟩,
    ⟨some 5, .mov (.t 11), none⟩]))))))
/-- frustum/frustumref20.listed -/
def p143 : PFn := { nparams := 2, ntmps := 18, nobjs := 0, pure := true, keep := false, results := [⟨4, none⟩], body := (.cln (List.range 2) (.seq (.reg [⟨some 4, .mov (.c (.bool false)), none⟩])
  (.seq (.seq (.reg [⟨some 5, .mov (.c (.int .i64 0)), none⟩])
  (.block 0 (p143l0)))
  (.cln [] (.seq (.reg [⟨some 4, .mov (.c (.bool false)), none⟩])
  (.ret)))))) }
def p113l0 : PC := .loop (.cln [1, 2, 5] (.seq (.seq (.reg [⟨some 6, .mov (.t 5), none⟩,
    ⟨some 7, .faddr 7 (.t 2), none⟩,
    ⟨some 8, .load none (.t 7), none⟩,
    ⟨some 9, .lenl (.t 8), none⟩,
    ⟨some 10, .bini .lss (.t 6) (.t 9), none⟩])
  (.cond (.t 10) (.skip) (.exit 0)))
  (.cln [1, 2, 5] (.seq (.block 1 (.seq (.reg [⟨some 13, .faddr 7 (.t 2), none⟩,
    ⟨some 14, .load none (.t 13), none⟩,
    ⟨some 15, .mov (.t 5), none⟩,
    ⟨some 16, .iaddr 10 (.t 14) (.t 15), none⟩,
    ⟨some 17, .faddr 0 (.t 16), none⟩,
    ⟨some 18, .load none (.t 17), none⟩,
    ⟨some 19, .mov (.t 1), none⟩,
    ⟨some 20, .bins .eql (.t 18) (.t 19), none⟩])
  (.cond (.t 20) (.seq (.reg [⟨some 21, .mov (.t 5), none⟩,
    ⟨some 4, .mov (.t 21), none⟩])
  (.ret)) (.skip))))
  (.cln [1, 2, 5] (.reg [⟨some 11, .mov (.t 5), none⟩,
    ⟨some 12, .bini .add (.t 11) (.c (.int .i64 1)), none⟩,
    ⟨some 5, .mov (.t 12), none⟩]))))))
/-- frustum/frustumref20.FindFunction -/
def p113 : PFn := { nparams := 2, ntmps := 22, nobjs := 0, pure := true, keep := false, results := [⟨4, none⟩], body := (.cln (List.range 2) (.seq (.reg [⟨some 2, .boxi (.t 0), none⟩,
    ⟨some 4, .mov (.c (.int .i64 0)), none⟩])
  (.seq (.seq (.reg [⟨some 5, .mov (.c (.int .i64 0)), none⟩])
  (.block 0 (p113l0)))
  (.cln [] (.seq (.reg [⟨some 4, .mov (.c (.int .i64 (-1))), none⟩])
  (.ret)))))) }
/-- frustum/frustumref20.global -/
def p106 : PFn := { nparams := 2, ntmps := 48, nobjs := 0, pure := true, keep := false, results := [⟨4, none⟩], body := (.cln (List.range 2) (.seq (.reg [⟨some 2, .boxi (.t 0), none⟩,
    ⟨some 4, .mov (.c (.bool false)), none⟩])
  (.seq (.reg [⟨some 5, .load (some 9) (.t 2), none⟩,
    ⟨some 6, .mov (.t 1), none⟩,
    ⟨some 7, .call (.c (.fn 100 [] [])) [.t 5, .t 6], none⟩,
    ⟨some 8, .bini .geq (.t 7) (.c (.int .i64 0)), none⟩,
    ⟨some 9, .mov (.t 8), none⟩,
    ⟨some 10, .faddr 2 (.t 2), some (9, false)⟩,
    ⟨some 11, .load none (.t 10), some (9, false)⟩,
    ⟨some 12, .mov (.t 1), some (9, false)⟩,
    ⟨some 13, .call (.c (.fn 101 [] [])) [.t 11, .t 12], some (9, false)⟩,
    ⟨some 14, .bini .geq (.t 13) (.c (.int .i64 0)), some (9, false)⟩,
    ⟨some 15, .pick (.t 9) (.c (.bool true)) (.t 14), none⟩,
    ⟨some 16, .mov (.t 15), none⟩,
    ⟨some 17, .faddr 3 (.t 2), some (16, false)⟩,
    ⟨some 18, .load none (.t 17), some (16, false)⟩,
    ⟨some 19, .mov (.t 1), some (16, false)⟩,
    ⟨some 20, .call (.c (.fn 143 [] [])) [.t 18, .t 19], some (16, false)⟩,
    ⟨some 21, .pick (.t 16) (.c (.bool true)) (.t 20), none⟩,
    ⟨some 22, .mov (.t 21), none⟩,
    ⟨some 23, .faddr 4 (.t 2), some (22, false)⟩,
    ⟨some 24, .load none (.t 23), some (22, false)⟩,
    ⟨some 25, .mov (.t 1), some (22, false)⟩,
    ⟨some 26, .call (.c (.fn 143 [] [])) [.t 24, .t 25], some (22, false)⟩,
    ⟨some 27, .pick (.t 22) (.c (.bool true)) (.t 26), none⟩,
    ⟨some 28, .mov (.t 27), none⟩,
    ⟨some 29, .faddr 5 (.t 2), some (28, false)⟩,
    ⟨some 30, .load none (.t 29), some (28, false)⟩,
    ⟨some 31, .mov (.t 1), some (28, false)⟩,
    ⟨some 32, .call (.c (.fn 101 [] [])) [.t 30, .t 31], some (28, false)⟩,
    ⟨some 33, .bini .geq (.t 32) (.c (.int .i64 0)), some (28, false)⟩,
    ⟨some 34, .pick (.t 28) (.c (.bool true)) (.t 33), none⟩,
    ⟨some 35, .mov (.t 34), none⟩,
    ⟨some 36, .faddr 6 (.t 2), some (35, false)⟩,
    ⟨some 37, .load none (.t 36), some (35, false)⟩,
    ⟨some 38, .mov (.t 1), some (35, false)⟩,
    ⟨some 39, .call (.c (.fn 101 [] [])) [.t 37, .t 38], some (35, false)⟩,
    ⟨some 40, .bini .geq (.t 39) (.c (.int .i64 0)), some (35, false)⟩,
    ⟨some 41, .pick (.t 35) (.c (.bool true)) (.t 40), none⟩,
    ⟨some 42, .mov (.t 41), none⟩,
    ⟨some 43, .load (some 9) (.t 2), some (42, false)⟩,
    ⟨some 44, .mov (.t 1), some (42, false)⟩,
    ⟨some 45, .call (.c (.fn 113 [] [])) [.t 43, .t 44], some (42, false)⟩,
    ⟨some 46, .bini .geq (.t 45) (.c (.int .i64 0)), some (42, false)⟩,
    ⟨some 47, .pick (.t 42) (.c (.bool true)) (.t 46), none⟩,
    ⟨some 4, .mov (.t 47), none⟩])
  (.ret)))) }
def p103l0 : PC := .loop (.cln [2, 3, 4, 7] (.seq (.seq (.reg [⟨some 9, .mov (.t 7), none⟩,
    ⟨some 10, .mov (.t 2), none⟩,
    ⟨some 11, .lenl (.t 10), none⟩,
    ⟨some 12, .bini .lss (.t 9) (.t 11), none⟩])
  (.cond (.t 12) (.skip) (.exit 0)))
  (.cln [2, 3, 4, 7] (.seq (.block 1 (.seq (.reg [⟨some 15, .mov (.t 2), none⟩,
    ⟨some 16, .mov (.t 7), none⟩,
    ⟨some 17, .iaddr 3 (.t 15) (.t 16), none⟩,
    ⟨some 18, .faddr 0 (.t 17), none⟩,
    ⟨some 19, .load none (.t 18), none⟩,
    ⟨some 8, .mov (.t 19), none⟩])
  (.seq (.seq (.reg [⟨some 20, .mov (.t 8), none⟩,
    ⟨some 21, .call (.c (.fn 99 [] [])) [.t 20], none⟩,
    ⟨some 22, .notb (.t 21), none⟩,
    ⟨some 23, .mov (.t 22), none⟩,
    ⟨some 24, .load (some 9) (.t 3), some (23, false)⟩,
    ⟨some 25, .mov (.t 8), some (23, false)⟩,
    ⟨some 26, .call (.c (.fn 106 [] [])) [.t 24, .t 25], some (23, false)⟩,
    ⟨some 27, .pick (.t 23) (.c (.bool true)) (.t 26), none⟩,
    ⟨some 28, .mov (.t 27), none⟩,
    ⟨some 29, .mov (.t 2), some (28, false)⟩,
    ⟨some 30, .mov (.t 8), some (28, false)⟩,
    ⟨some 31, .call (.c (.fn 101 [] [])) [.t 29, .t 30], some (28, false)⟩,
    ⟨some 32, .mov (.t 7), some (28, false)⟩,
    ⟨some 33, .bini .lss (.t 31) (.t 32), some (28, false)⟩,
    ⟨some 34, .pick (.t 28) (.c (.bool true)) (.t 33), none⟩])
  (.cond (.t 34) (.seq (.reg [⟨some 6, .mov (.c (.int .i64 13)), none⟩])
  (.ret)) (.skip)))
  (.cln [2, 3, 4, 7] (.seq (.regd [⟨0, ⟨some 35, .load (some 9) (.t 4), none⟩, false, [], []⟩,
    ⟨1, ⟨some 36, .mov (.t 2), none⟩, false, [], []⟩,
    ⟨2, ⟨some 37, .mov (.t 7), none⟩, false, [], []⟩,
    ⟨3, ⟨some 38, .iaddr 3 (.t 36) (.t 37), none⟩, false, [1, 2], []⟩,
    ⟨4, ⟨some 39, .faddr 1 (.t 38), none⟩, false, [1, 2, 3], []⟩,
    ⟨5, ⟨some 40, .load (some 2) (.t 39), none⟩, false, [1, 2, 3, 4], []⟩,
    ⟨6, ⟨some 41, .faddr 1 (.t 4), none⟩, false, [], []⟩,
    ⟨7, ⟨some 42, .load none (.t 41), none⟩, false, [6], []⟩,
    ⟨8, ⟨some 43, .lenl (.t 42), none⟩, false, [6, 7], []⟩,
    ⟨9, ⟨some 44, .call (.c (.fn 102 [] [])) [.t 35, .t 40, .t 43], none⟩, true, .range 9, []⟩,
    ⟨10, ⟨some 45, .notb (.t 44), none⟩, false, .range 10, []⟩] (.range 11) 46)
  (.cond (.t 45) (.seq (.reg [⟨some 6, .mov (.c (.int .i64 12)), none⟩])
  (.ret)) (.skip)))))))
  (.cln [2, 3, 4, 7] (.reg [⟨some 13, .mov (.t 7), none⟩,
    ⟨some 14, .bini .add (.t 13) (.c (.int .i64 1)), none⟩,
    ⟨some 7, .mov (.t 14), none⟩]))))))
/-- frustum/frustumref20.declared -/
def p103 : PFn := { nparams := 3, ntmps := 46, nobjs := 0, pure := true, keep := false, results := [⟨6, none⟩], body := (.cln (List.range 3) (.seq (.reg [⟨some 3, .boxi (.t 0), none⟩,
    ⟨some 4, .boxi (.t 1), none⟩,
    ⟨some 6, .mov (.c (.int .i64 0)), none⟩])
  (.seq (.seq (.reg [⟨some 7, .mov (.c (.int .i64 0)), none⟩])
  (.block 0 (p103l0)))
  (.cln [] (.seq (.reg [⟨some 6, .mov (.c (.int .i64 0)), none⟩])
  (.ret)))))) }
def p104l0 : PC := .loop (.cln [1, 2, 5] (.seq (.seq (.reg [⟨some 6, .mov (.t 5), none⟩,
    ⟨some 7, .mov (.t 1), none⟩,
    ⟨some 8, .lenl (.t 7), none⟩,
    ⟨some 9, .bini .lss (.t 6) (.t 8), none⟩])
  (.cond (.t 9) (.skip) (.exit 0)))
  (.cln [1, 2, 5] (.seq (.block 1 (.seq (.regd [⟨0, ⟨some 12, .mov (.t 1), none⟩, false, [], []⟩,
    ⟨1, ⟨some 13, .mov (.t 5), none⟩, false, [], []⟩,
    ⟨2, ⟨some 14, .iaddr 1 (.t 12) (.t 13), none⟩, false, [0, 1], []⟩,
    ⟨3, ⟨some 15, .load none (.t 14), none⟩, false, [0, 1, 2], []⟩,
    ⟨4, ⟨some 16, .call (.c (.fn 99 [] [])) [.t 15], none⟩, true, [0, 1, 2, 3], []⟩,
    ⟨5, ⟨some 17, .notb (.t 16), none⟩, false, .range 5, []⟩,
    ⟨6, ⟨some 18, .mov (.t 17), none⟩, false, .range 6, []⟩,
    ⟨7, ⟨some 19, .load (some 9) (.t 2), some (18, false)⟩, false, .range 7, []⟩,
    ⟨8, ⟨some 20, .mov (.t 1), some (18, false)⟩, false, .range 7, []⟩,
    ⟨9, ⟨some 21, .mov (.t 5), some (18, false)⟩, false, .range 7, []⟩,
    ⟨10, ⟨some 22, .iaddr 1 (.t 20) (.t 21), some (18, false)⟩, false, (.range 7 ++ [8, 9]), []⟩,
    ⟨11, ⟨some 23, .load none (.t 22), some (18, false)⟩, false, (.range 7 ++ [8, 9, 10]), []⟩,
    ⟨12, ⟨some 24, .call (.c (.fn 106 [] [])) [.t 19, .t 23], some (18, false)⟩, true, .range 12, []⟩,
    ⟨13, ⟨some 25, .pick (.t 18) (.c (.bool true)) (.t 24), none⟩, false, .range 13, []⟩,
    ⟨14, ⟨some 26, .mov (.t 25), none⟩, false, .range 14, []⟩,
    ⟨15, ⟨some 27, .mov (.t 1), some (26, false)⟩, false, .range 15, []⟩,
    ⟨16, ⟨some 28, .mov (.t 5), some (26, false)⟩, false, .range 15, []⟩,
    ⟨17, ⟨some 29, .slc 1 (.t 27) none (some (.t 28)) none, some (26, false)⟩, false, .range 17, []⟩,
    ⟨18, ⟨some 30, .mov (.t 1), some (26, false)⟩, false, .range 15, []⟩,
    ⟨19, ⟨some 31, .mov (.t 5), some (26, false)⟩, false, .range 15, []⟩,
    ⟨20, ⟨some 32, .iaddr 1 (.t 30) (.t 31), some (26, false)⟩, false, (.range 15 ++ [18, 19]), []⟩,
    ⟨21, ⟨some 33, .load none (.t 32), some (26, false)⟩, false, (.range 15 ++ [18, 19, 20]), []⟩,
    ⟨22, ⟨some 34, .call (.c (.fn 143 [] [])) [.t 29, .t 33], some (26, false)⟩, true, .range 22, []⟩,
    ⟨23, ⟨some 35, .pick (.t 26) (.c (.bool true)) (.t 34), none⟩, false, .range 23, []⟩] (.range 24) 36)
  (.cond (.t 35) (.seq (.reg [⟨some 4, .mov (.c (.int .i64 13)), none⟩])
  (.ret)) (.skip))))
  (.cln [1, 2, 5] (.reg [⟨some 10, .mov (.t 5), none⟩,
    ⟨some 11, .bini .add (.t 10) (.c (.int .i64 1)), none⟩,
    ⟨some 5, .mov (.t 11), none⟩]))))))
/-- frustum/frustumref20.names -/
def p104 : PFn := { nparams := 2, ntmps := 36, nobjs := 0, pure := true, keep := false, results := [⟨4, none⟩], body := (.cln (List.range 2) (.seq (.reg [⟨some 2, .boxi (.t 0), none⟩,
    ⟨some 4, .mov (.c (.int .i64 0)), none⟩])
  (.seq (.seq (.reg [⟨some 5, .mov (.c (.int .i64 0)), none⟩])
  (.block 0 (p104l0)))
  (.cln [] (.seq (.reg [⟨some 4, .mov (.c (.int .i64 0)), none⟩])
  (.ret)))))) }
/-- frustum/frustumref20.sized -/
def p156 : PFn := { nparams := 3, ntmps := 35, nobjs := 0, pure := true, keep := false, results := [⟨6, none⟩], body := (.cln (List.range 3) (.seq (.reg [⟨some 3, .boxi (.t 0), none⟩,
    ⟨some 4, .boxi (.t 1), none⟩,
    ⟨some 6, .mov (.c (.int .i64 0)), none⟩])
  (.seq (.seq (.reg [⟨some 8, .load (some 2) (.t 4), none⟩,
    ⟨some 9, .call (.c (.fn 175 [] [])) [.t 8], none⟩])
  (.cond (.t 9) (.seq (.reg [⟨some 6, .mov (.c (.int .i64 1)), none⟩])
  (.ret)) (.skip)))
  (.cln [2, 3, 4] (.seq (.seq (.reg [⟨some 10, .load (some 2) (.t 4), none⟩,
    ⟨some 11, .call (.c (.fn 153 [] [])) [.t 10], none⟩])
  (.cond (.t 11) (.seq (.reg [⟨some 12, .faddr 0 (.t 4), none⟩,
    ⟨some 13, .load none (.t 12), none⟩,
    ⟨some 14, .bini .add (.c (.int .i64 2)) (.t 13), none⟩,
    ⟨some 15, .bini .sub (.t 14) (.c (.int .i64 5)), none⟩,
    ⟨some 6, .mov (.t 15), none⟩])
  (.ret)) (.skip)))
  (.cln [2, 3, 4] (.seq (.reg [⟨some 7, .mov (.c (.int .i64 (-1))), none⟩])
  (.seq (.seq (.reg [⟨some 16, .faddr 0 (.t 4), none⟩,
    ⟨some 17, .load none (.t 16), none⟩,
    ⟨some 18, .bini .eql (.t 17) (.c (.int .i64 8)), none⟩])
  (.cond (.t 18) (.reg [⟨some 19, .load (some 9) (.t 3), none⟩,
    ⟨some 20, .faddr 1 (.t 4), none⟩,
    ⟨some 21, .load none (.t 20), none⟩,
    ⟨some 22, .call (.c (.fn 100 [] [])) [.t 19, .t 21], none⟩,
    ⟨some 7, .mov (.t 22), none⟩]) (.skip)))
  (.cln [2, 7] (.seq (.seq (.reg [⟨some 23, .mov (.t 7), none⟩,
    ⟨some 24, .bini .lss (.t 23) (.c (.int .i64 0)), none⟩,
    ⟨some 25, .mov (.t 24), none⟩,
    ⟨some 26, .mov (.t 7), some (25, false)⟩,
    ⟨some 27, .mov (.t 2), some (25, false)⟩,
    ⟨some 28, .lenl (.t 27), some (25, false)⟩,
    ⟨some 29, .bini .geq (.t 26) (.t 28), some (25, false)⟩,
    ⟨some 30, .pick (.t 25) (.c (.bool true)) (.t 29), none⟩])
  (.cond (.t 30) (.seq (.reg [⟨some 6, .mov (.c (.int .i64 0)), none⟩])
  (.ret)) (.skip)))
  (.cln [2, 7] (.seq (.reg [⟨some 31, .mov (.t 2), none⟩,
    ⟨some 32, .mov (.t 7), none⟩,
    ⟨some 33, .iaddr 1 (.t 31) (.t 32), none⟩,
    ⟨some 34, .load none (.t 33), none⟩,
    ⟨some 6, .mov (.t 34), none⟩])
  (.ret))))))))))))) }
def p144l0 : PC := .loop (.cln [1, 2, 3, 7, 8] (.seq (.seq (.reg [⟨some 9, .mov (.t 8), none⟩,
    ⟨some 10, .mov (.t 1), none⟩,
    ⟨some 11, .lenl (.t 10), none⟩,
    ⟨some 12, .bini .lss (.t 9) (.t 11), none⟩])
  (.cond (.t 12) (.skip) (.exit 0)))
  (.cln [1, 2, 3, 7, 8] (.seq (.block 1 (.regd [⟨0, ⟨some 15, .mov (.t 7), none⟩, false, [], []⟩,
    ⟨1, ⟨some 16, .load (some 9) (.t 3), none⟩, false, [], []⟩,
    ⟨2, ⟨some 17, .mov (.t 1), none⟩, false, [], []⟩,
    ⟨3, ⟨some 18, .mov (.t 8), none⟩, false, [], []⟩,
    ⟨4, ⟨some 19, .iaddr 3 (.t 17) (.t 18), none⟩, false, [2, 3], []⟩,
    ⟨5, ⟨some 20, .faddr 1 (.t 19), none⟩, false, [2, 3, 4], []⟩,
    ⟨6, ⟨some 21, .load (some 2) (.t 20), none⟩, false, [2, 3, 4, 5], []⟩,
    ⟨7, ⟨some 22, .mov (.t 2), none⟩, false, [], []⟩,
    ⟨8, ⟨some 23, .call (.c (.fn 156 [] [])) [.t 16, .t 21, .t 22], none⟩, true, [1, 2, 3, 4, 5, 6, 7], []⟩,
    ⟨9, ⟨some 24, .bini .add (.t 15) (.t 23), none⟩, false, .range 9, []⟩,
    ⟨10, ⟨some 25, .mn (.c (.int .i64 1000)) [.t 24], none⟩, false, .range 10, []⟩,
    ⟨11, ⟨some 7, .mov (.t 25), none⟩, true, .range 11, []⟩] (.range 12) 26))
  (.cln [1, 2, 3, 7, 8] (.reg [⟨some 13, .mov (.t 8), none⟩,
    ⟨some 14, .bini .add (.t 13) (.c (.int .i64 1)), none⟩,
    ⟨some 8, .mov (.t 14), none⟩]))))))
/-- frustum/frustumref20.sum -/
def p144 : PFn := { nparams := 3, ntmps := 27, nobjs := 0, pure := true, keep := false, results := [⟨6, none⟩], body := (.cln (List.range 3) (.seq (.reg [⟨some 3, .boxi (.t 0), none⟩,
    ⟨some 6, .mov (.c (.int .i64 0)), none⟩])
  (.seq (.reg [⟨some 7, .mov (.c (.int .i64 0)), none⟩])
  (.seq (.seq (.reg [⟨some 8, .mov (.c (.int .i64 0)), none⟩])
  (.block 0 (p144l0)))
  (.cln [7] (.seq (.reg [⟨some 26, .mov (.t 7), none⟩,
    ⟨some 6, .mov (.t 26), none⟩])
  (.ret))))))) }
def p145l0 : PC := .loop (.cln [1, 3, 4] (.seq (.seq (.reg [⟨some 5, .mov (.t 4), none⟩,
    ⟨some 6, .faddr 1 (.t 1), none⟩,
    ⟨some 7, .load none (.t 6), none⟩,
    ⟨some 8, .lenl (.t 7), none⟩,
    ⟨some 9, .bini .lss (.t 5) (.t 8), none⟩])
  (.cond (.t 9) (.skip) (.exit 0)))
  (.cln [1, 3, 4] (.seq (.block 1 (.regd [⟨0, ⟨some 12, .mov (.t 3), none⟩, false, [], []⟩,
    ⟨1, ⟨some 13, .load (some 9) (.t 1), none⟩, false, [], []⟩,
    ⟨2, ⟨some 14, .faddr 1 (.t 1), none⟩, false, [], []⟩,
    ⟨3, ⟨some 15, .load none (.t 14), none⟩, false, [2], []⟩,
    ⟨4, ⟨some 16, .mov (.t 4), none⟩, false, [], []⟩,
    ⟨5, ⟨some 17, .iaddr 2 (.t 15) (.t 16), none⟩, false, [2, 3, 4], []⟩,
    ⟨6, ⟨some 18, .faddr 1 (.t 17), none⟩, false, [2, 3, 4, 5], []⟩,
    ⟨7, ⟨some 19, .load none (.t 18), none⟩, false, [2, 3, 4, 5, 6], []⟩,
    ⟨8, ⟨some 20, .mov (.t 3), none⟩, false, [], []⟩,
    ⟨9, ⟨some 21, .call (.c (.fn 144 [] [])) [.t 13, .t 19, .t 20], none⟩, true, [1, 2, 3, 4, 5, 6, 7, 8], []⟩,
    ⟨10, ⟨some 22, .bsl [.int .i64 0] [(0, .t 21)], none⟩, false, [1, 2, 3, 4, 5, 6, 7, 8, 9], []⟩,
    ⟨11, ⟨some 23, .append 1 true 1 8 (.t 12) (.t 22), none⟩, true, .range 11, []⟩,
    ⟨12, ⟨some 3, .mov (.t 23), none⟩, true, .range 12, []⟩] (.range 13) 24))
  (.cln [1, 3, 4] (.reg [⟨some 10, .mov (.t 4), none⟩,
    ⟨some 11, .bini .add (.t 10) (.c (.int .i64 1)), none⟩,
    ⟨some 4, .mov (.t 11), none⟩]))))))
/-- frustum/frustumref20.structSizes -/
def p145 : PFn := { nparams := 1, ntmps := 25, nobjs := 2, pure := true, keep := false, results := [⟨2, none⟩], body := (.cln (List.range 1) (.seq (.reg [⟨some 1, .boxi (.t 0), none⟩,
    ⟨some 2, .mov (.c (.vs .nil [])), none⟩])
  (.seq (.reg [⟨some 3, .vec 0 true 1, none⟩])
  (.seq (.seq (.reg [⟨some 4, .mov (.c (.int .i64 0)), none⟩])
  (.block 0 (p145l0)))
  (.cln [3] (.seq (.reg [⟨some 24, .frz (.t 3), none⟩,
    ⟨some 2, .mov (.t 24), none⟩])
  (.ret))))))) }
/-- frustum/frustumref20.Total -/
def p105 : PFn := { nparams := 2, ntmps := 10, nobjs := 0, pure := true, keep := false, results := [⟨4, none⟩], body := (.cln (List.range 2) (.seq (.reg [⟨some 2, .boxi (.t 0), none⟩,
    ⟨some 4, .mov (.c (.int .i64 0)), none⟩])
  (.seq (.regd [⟨0, ⟨some 5, .load (some 9) (.t 2), none⟩, false, [], []⟩,
    ⟨1, ⟨some 6, .mov (.t 1), none⟩, false, [], []⟩,
    ⟨2, ⟨some 7, .load (some 9) (.t 2), none⟩, false, [], []⟩,
    ⟨3, ⟨some 8, .call (.c (.fn 145 [] [])) [.t 7], none⟩, true, [2], [0]⟩,
    ⟨4, ⟨some 9, .call (.c (.fn 144 [] [])) [.t 5, .t 6, .t 8], none⟩, true, [0, 1, 2, 3], []⟩,
    ⟨5, ⟨some 4, .mov (.t 9), none⟩, false, .range 5, []⟩] (.range 6) 10)
  (.ret)))) }
/-- frustum/frustumref20.globals -/
def p67 : PFn := { nparams := 1, ntmps := 81, nobjs := 1, pure := true, keep := false, results := [⟨2, none⟩], body := (.cln (List.range 1) (.seq (.reg [⟨some 1, .boxi (.t 0), none⟩,
    ⟨some 2, .mov (.c (.int .i64 0)), none⟩])
  (.seq (.reg [⟨some 9, .faddr 1 (.t 1), none⟩,
    ⟨some 10, .load none (.t 9), none⟩,
    ⟨some 11, .build [.int .i64 0, .vs .nil [], .vs .nil [], .vs .nil [], .vs .nil [], .vs .nil [], .vs .nil [], .vs .nil [], .vs .nil []] [(1, 1, .t 10)], none⟩,
    ⟨some 3, .alloc 0 (.agg [.int .i64 0, .vs .nil [], .vs .nil [], .vs .nil [], .vs .nil [], .vs .nil [], .vs .nil [], .vs .nil [], .vs .nil []]), none⟩,
    ⟨none, .store (some 9) (.t 3) (.t 11), none⟩])
  (.seq (.seq (.reg [⟨some 12, .load (some 9) (.t 3), none⟩,
    ⟨some 13, .load (some 9) (.t 1), none⟩,
    ⟨some 14, .faddr 2 (.t 1), none⟩,
    ⟨some 15, .load none (.t 14), none⟩,
    ⟨some 16, .call (.c (.fn 103 [] [])) [.t 12, .t 13, .t 15], none⟩,
    ⟨some 4, .mov (.t 16), none⟩])
  (.seq (.reg [⟨some 17, .mov (.t 4), none⟩,
    ⟨some 18, .bini .neq (.t 17) (.c (.int .i64 0)), none⟩])
  (.cond (.t 18) (.seq (.reg [⟨some 19, .mov (.t 4), none⟩,
    ⟨some 2, .mov (.t 19), none⟩])
  (.ret)) (.skip))))
  (.cln [1, 3] (.seq (.reg [⟨some 20, .faddr 2 (.t 1), none⟩,
    ⟨some 21, .load none (.t 20), none⟩,
    ⟨some 22, .faddr 2 (.t 3), none⟩,
    ⟨none, .store none (.t 22) (.t 21), none⟩])
  (.seq (.seq (.reg [⟨some 23, .load (some 9) (.t 3), none⟩,
    ⟨some 24, .faddr 3 (.t 1), none⟩,
    ⟨some 25, .load none (.t 24), none⟩,
    ⟨some 26, .call (.c (.fn 104 [] [])) [.t 23, .t 25], none⟩,
    ⟨some 5, .mov (.t 26), none⟩])
  (.seq (.reg [⟨some 27, .mov (.t 5), none⟩,
    ⟨some 28, .bini .neq (.t 27) (.c (.int .i64 0)), none⟩])
  (.cond (.t 28) (.seq (.reg [⟨some 29, .mov (.t 5), none⟩,
    ⟨some 2, .mov (.t 29), none⟩])
  (.ret)) (.skip))))
  (.cln [1, 3] (.seq (.reg [⟨some 30, .faddr 3 (.t 1), none⟩,
    ⟨some 31, .load none (.t 30), none⟩,
    ⟨some 32, .faddr 3 (.t 3), none⟩,
    ⟨none, .store none (.t 32) (.t 31), none⟩])
  (.seq (.seq (.reg [⟨some 33, .load (some 9) (.t 3), none⟩,
    ⟨some 34, .faddr 4 (.t 1), none⟩,
    ⟨some 35, .load none (.t 34), none⟩,
    ⟨some 36, .call (.c (.fn 104 [] [])) [.t 33, .t 35], none⟩,
    ⟨some 6, .mov (.t 36), none⟩])
  (.seq (.reg [⟨some 37, .mov (.t 6), none⟩,
    ⟨some 38, .bini .neq (.t 37) (.c (.int .i64 0)), none⟩])
  (.cond (.t 38) (.seq (.reg [⟨some 39, .mov (.t 6), none⟩,
    ⟨some 2, .mov (.t 39), none⟩])
  (.ret)) (.skip))))
  (.cln [1, 3] (.seq (.reg [⟨some 40, .faddr 4 (.t 1), none⟩,
    ⟨some 41, .load none (.t 40), none⟩,
    ⟨some 42, .faddr 4 (.t 3), none⟩,
    ⟨none, .store none (.t 42) (.t 41), none⟩])
  (.seq (.seq (.reg [⟨some 43, .load (some 9) (.t 3), none⟩,
    ⟨some 44, .load (some 9) (.t 1), none⟩,
    ⟨some 45, .faddr 5 (.t 1), none⟩,
    ⟨some 46, .load none (.t 45), none⟩,
    ⟨some 47, .call (.c (.fn 103 [] [])) [.t 43, .t 44, .t 46], none⟩,
    ⟨some 7, .mov (.t 47), none⟩])
  (.seq (.reg [⟨some 48, .mov (.t 7), none⟩,
    ⟨some 49, .bini .neq (.t 48) (.c (.int .i64 0)), none⟩])
  (.cond (.t 49) (.seq (.reg [⟨some 50, .mov (.t 7), none⟩,
    ⟨some 2, .mov (.t 50), none⟩])
  (.ret)) (.skip))))
  (.cln [1, 3] (.seq (.reg [⟨some 51, .faddr 5 (.t 1), none⟩,
    ⟨some 52, .load none (.t 51), none⟩,
    ⟨some 53, .faddr 5 (.t 3), none⟩,
    ⟨none, .store none (.t 53) (.t 52), none⟩])
  (.seq (.seq (.reg [⟨some 54, .load (some 9) (.t 3), none⟩,
    ⟨some 55, .load (some 9) (.t 1), none⟩,
    ⟨some 56, .faddr 6 (.t 1), none⟩,
    ⟨some 57, .load none (.t 56), none⟩,
    ⟨some 58, .call (.c (.fn 103 [] [])) [.t 54, .t 55, .t 57], none⟩,
    ⟨some 8, .mov (.t 58), none⟩])
  (.seq (.reg [⟨some 59, .mov (.t 8), none⟩,
    ⟨some 60, .bini .neq (.t 59) (.c (.int .i64 0)), none⟩])
  (.cond (.t 60) (.seq (.reg [⟨some 61, .mov (.t 8), none⟩,
    ⟨some 2, .mov (.t 61), none⟩])
  (.ret)) (.skip))))
  (.cln [1] (.seq (.seq (.reg [⟨some 62, .load (some 9) (.t 1), none⟩,
    ⟨some 63, .faddr 2 (.t 1), none⟩,
    ⟨some 64, .load none (.t 63), none⟩,
    ⟨some 65, .call (.c (.fn 105 [] [])) [.t 62, .t 64], none⟩,
    ⟨some 66, .bini .gtr (.t 65) (.c (.int .i64 64)), none⟩,
    ⟨some 67, .mov (.t 66), none⟩,
    ⟨some 68, .load (some 9) (.t 1), some (67, false)⟩,
    ⟨some 69, .faddr 5 (.t 1), some (67, false)⟩,
    ⟨some 70, .load none (.t 69), some (67, false)⟩,
    ⟨some 71, .call (.c (.fn 105 [] [])) [.t 68, .t 70], some (67, false)⟩,
    ⟨some 72, .bini .gtr (.t 71) (.c (.int .i64 32)), some (67, false)⟩,
    ⟨some 73, .pick (.t 67) (.c (.bool true)) (.t 72), none⟩,
    ⟨some 74, .mov (.t 73), none⟩,
    ⟨some 75, .load (some 9) (.t 1), some (74, false)⟩,
    ⟨some 76, .faddr 6 (.t 1), some (74, false)⟩,
    ⟨some 77, .load none (.t 76), some (74, false)⟩,
    ⟨some 78, .call (.c (.fn 105 [] [])) [.t 75, .t 77], some (74, false)⟩,
    ⟨some 79, .bini .gtr (.t 78) (.c (.int .i64 32)), some (74, false)⟩,
    ⟨some 80, .pick (.t 74) (.c (.bool true)) (.t 79), none⟩])
  (.cond (.t 80) (.seq (.reg [⟨some 2, .mov (.c (.int .i64 5)), none⟩])
  (.ret)) (.skip)))
  (.cln [] (.seq (.reg [⟨some 2, .mov (.c (.int .i64 0)), none⟩])
  (.ret))))))))))))))))))))) }
/-- frustum/frustumref20.seen -/
def p70 : PFn := { nparams := 2, ntmps := 14, nobjs := 2, pure := true, keep := false, results := [⟨4, some (some 9)⟩], body := (.cln (List.range 2) (.seq (.reg [⟨some 2, .boxi (.t 0), none⟩,
    ⟨some 4, .alloc 0 (.agg [.int .i64 0, .vs .nil [], .vs .nil [], .vs .nil [], .vs .nil [], .vs .nil [], .vs .nil [], .vs .nil [], .vs .nil []]), none⟩])
  (.seq (.reg [⟨some 6, .load (some 9) (.t 2), none⟩,
    ⟨some 5, .alloc 1 (.agg [.int .i64 0, .vs .nil [], .vs .nil [], .vs .nil [], .vs .nil [], .vs .nil [], .vs .nil [], .vs .nil [], .vs .nil []]), none⟩,
    ⟨none, .store (some 9) (.t 5) (.t 6), none⟩])
  (.seq (.reg [⟨some 7, .faddr 6 (.t 5), none⟩,
    ⟨none, .store none (.t 7) (.c (.vs .nil [])), none⟩])
  (.seq (.reg [⟨some 8, .faddr 7 (.t 2), none⟩,
    ⟨some 9, .load none (.t 8), none⟩,
    ⟨some 10, .mov (.t 1), none⟩,
    ⟨some 11, .slc 10 (.t 9) none (some (.t 10)) none, none⟩,
    ⟨some 12, .faddr 7 (.t 5), none⟩,
    ⟨none, .store none (.t 12) (.t 11), none⟩])
  (.seq (.reg [⟨some 13, .load (some 9) (.t 5), none⟩,
    ⟨none, .store (some 9) (.t 4) (.t 13), none⟩])
  (.ret))))))) }
/-- frustum/frustumref20.operands -/
def p147 : PFn := { nparams := 1, ntmps := 17, nobjs := 0, pure := true, keep := false, results := [⟨2, none⟩], body := (.cln (List.range 1) (.seq (.reg [⟨some 2, .mov (.c (.int .i64 0)), none⟩])
  (.seq (.seq (.reg [⟨some 3, .mov (.t 0), none⟩])
  (.block 0 (.seq (.seq (.reg [⟨some 5, .bini .eql (.t 3) (.c (.int .i64 1)), none⟩,
    ⟨some 4, .mov (.t 5), none⟩])
  (.cond (.t 4) (.skip) (.seq (.reg [⟨some 6, .bini .eql (.t 3) (.c (.int .i64 2)), none⟩,
    ⟨some 4, .mov (.t 6), none⟩])
  (.cond (.t 4) (.skip) (.seq (.reg [⟨some 7, .bini .eql (.t 3) (.c (.int .i64 3)), none⟩,
    ⟨some 4, .mov (.t 7), none⟩])
  (.cond (.t 4) (.skip) (.reg [⟨some 8, .bini .eql (.t 3) (.c (.int .i64 4)), none⟩,
    ⟨some 4, .mov (.t 8), none⟩])))))))
  (.cln [3, 4] (.cond (.t 4) (.seq (.reg [⟨some 2, .mov (.c (.int .i64 0)), none⟩])
  (.ret)) (.seq (.seq (.reg [⟨some 10, .bini .eql (.t 3) (.c (.int .i64 5)), none⟩,
    ⟨some 9, .mov (.t 10), none⟩])
  (.cond (.t 9) (.skip) (.reg [⟨some 11, .bini .eql (.t 3) (.c (.int .i64 8)), none⟩,
    ⟨some 9, .mov (.t 11), none⟩])))
  (.cln [3, 9] (.cond (.t 9) (.seq (.reg [⟨some 2, .mov (.c (.int .i64 1)), none⟩])
  (.ret)) (.seq (.seq (.reg [⟨some 13, .bini .eql (.t 3) (.c (.int .i64 6)), none⟩,
    ⟨some 12, .mov (.t 13), none⟩])
  (.cond (.t 12) (.skip) (.reg [⟨some 14, .bini .eql (.t 3) (.c (.int .i64 9)), none⟩,
    ⟨some 12, .mov (.t 14), none⟩])))
  (.cln [3, 12] (.cond (.t 12) (.seq (.reg [⟨some 2, .mov (.c (.int .i64 2)), none⟩])
  (.ret)) (.seq (.reg [⟨some 16, .bini .eql (.t 3) (.c (.int .i64 7)), none⟩,
    ⟨some 15, .mov (.t 16), none⟩])
  (.cond (.t 15) (.seq (.reg [⟨some 2, .mov (.c (.int .i64 (-1))), none⟩])
  (.ret)) (.skip))))))))))))))
  (.cln [] (.seq (.reg [⟨some 2, .mov (.c (.int .i64 (-2))), none⟩])
  (.ret)))))) }
def p111l0 : PC := .loop (.cln [0, 3, 4] (.seq (.seq (.reg [⟨some 6, .mov (.t 4), none⟩,
    ⟨some 7, .mov (.t 3), none⟩,
    ⟨some 8, .lenl (.t 7), none⟩,
    ⟨some 9, .bini .lss (.t 6) (.t 8), none⟩])
  (.cond (.t 9) (.skip) (.exit 0)))
  (.cln [0, 3, 4] (.seq (.block 1 (.seq (.reg [⟨some 12, .mov (.t 3), none⟩,
    ⟨some 13, .mov (.t 4), none⟩,
    ⟨some 14, .iaddr 1 (.t 12) (.t 13), none⟩,
    ⟨some 15, .load none (.t 14), none⟩,
    ⟨some 16, .mov (.t 0), none⟩,
    ⟨some 17, .bins .eql (.t 15) (.t 16), none⟩])
  (.cond (.t 17) (.seq (.reg [⟨some 18, .mov (.t 4), none⟩,
    ⟨some 19, .bini .add (.t 18) (.c (.int .i64 1)), none⟩,
    ⟨some 2, .mov (.t 19), none⟩])
  (.ret)) (.skip))))
  (.cln [0, 3, 4] (.reg [⟨some 10, .mov (.t 4), none⟩,
    ⟨some 11, .bini .add (.t 10) (.c (.int .i64 1)), none⟩,
    ⟨some 4, .mov (.t 11), none⟩]))))))
/-- frustum/frustumref20.word -/
def p111 : PFn := { nparams := 1, ntmps := 20, nobjs := 0, pure := true, keep := false, results := [⟨2, none⟩], body := (.cln (List.range 1) (.seq (.reg [⟨some 2, .mov (.c (.int .i64 0)), none⟩])
  (.seq (.reg [⟨some 5, .bsl [.str [], .str [], .str [], .str [], .str [], .str [], .str []] [(0, .c (.str [102, 105, 120, 101, 100])), (1, .c (.str [104, 97, 108, 102])), (2, .c (.str [105, 110, 116])), (3, .c (.str [98, 111, 111, 108])), (4, .c (.str [118, 101, 99, 50])), (5, .c (.str [118, 101, 99, 51])), (6, .c (.str [118, 101, 99, 52]))], none⟩,
    ⟨some 3, .mov (.t 5), none⟩])
  (.seq (.seq (.reg [⟨some 4, .mov (.c (.int .i64 0)), none⟩])
  (.block 0 (p111l0)))
  (.cln [] (.seq (.reg [⟨some 2, .mov (.c (.int .i64 0)), none⟩])
  (.ret))))))) }
/-- frustum/frustumref20.builtIn -/
def p157 : PFn := { nparams := 2, ntmps := 19, nobjs := 0, pure := true, keep := false, results := [⟨4, none⟩], body := (.cln (List.range 2) (.seq (.reg [⟨some 2, .boxi (.t 0), none⟩,
    ⟨some 4, .mov (.c (.bool false)), none⟩])
  (.seq (.reg [⟨some 5, .mov (.t 1), none⟩,
    ⟨some 6, .call (.c (.fn 111 [] [])) [.t 5], none⟩,
    ⟨some 7, .bini .eql (.t 6) (.c (.int .i64 0)), none⟩,
    ⟨some 8, .mov (.t 7), none⟩,
    ⟨some 9, .load (some 9) (.t 2), some (8, true)⟩,
    ⟨some 10, .mov (.t 1), some (8, true)⟩,
    ⟨some 11, .call (.c (.fn 100 [] [])) [.t 9, .t 10], some (8, true)⟩,
    ⟨some 12, .bini .lss (.t 11) (.c (.int .i64 0)), some (8, true)⟩,
    ⟨some 13, .pick (.t 8) (.t 12) (.c (.bool false)), none⟩,
    ⟨some 14, .mov (.t 13), none⟩,
    ⟨some 15, .mov (.t 1), some (14, true)⟩,
    ⟨some 16, .call (.c (.fn 112 [] [])) [.t 15], some (14, true)⟩,
    ⟨some 17, .bini .geq (.t 16) (.c (.int .i64 0)), some (14, true)⟩,
    ⟨some 18, .pick (.t 14) (.t 17) (.c (.bool false)), none⟩,
    ⟨some 4, .mov (.t 18), none⟩])
  (.ret)))) }
/-- frustum/frustumref20.byName -/
def p110 : PFn := { nparams := 2, ntmps := 36, nobjs := 0, pure := true, keep := false, results := [⟨4, none⟩], body := (.cln (List.range 2) (.seq (.reg [⟨some 2, .boxi (.t 0), none⟩,
    ⟨some 3, .boxi (.t 1), none⟩,
    ⟨some 4, .mov (.c (.bool false)), none⟩])
  (.seq (.reg [⟨some 6, .faddr 2 (.t 3), none⟩,
    ⟨some 7, .load none (.t 6), none⟩,
    ⟨some 5, .mov (.t 7), none⟩])
  (.seq (.reg [⟨some 8, .faddr 0 (.t 3), none⟩,
    ⟨some 9, .load none (.t 8), none⟩,
    ⟨some 10, .bini .eql (.t 9) (.c (.int .i64 7)), none⟩,
    ⟨some 11, .mov (.t 10), none⟩,
    ⟨some 12, .load (some 9) (.t 2), some (11, true)⟩,
    ⟨some 13, .mov (.t 5), some (11, true)⟩,
    ⟨some 14, .call (.c (.fn 157 [] [])) [.t 12, .t 13], some (11, true)⟩,
    ⟨some 15, .pick (.t 11) (.t 14) (.c (.bool false)), none⟩,
    ⟨some 16, .mov (.t 15), none⟩,
    ⟨some 17, .mov (.t 5), some (16, true)⟩,
    ⟨some 18, .bins .eql (.t 17) (.c (.str [115, 97, 109, 112, 108, 101])), some (16, true)⟩,
    ⟨some 19, .mov (.t 18), some (16, true)⟩,
    ⟨some 20, .mov (.t 5), some (19, false)⟩,
    ⟨some 21, .bins .eql (.t 20) (.c (.str [102, 101, 116, 99, 104])), some (19, false)⟩,
    ⟨some 22, .pick (.t 19) (.c (.bool true)) (.t 21), some (16, true)⟩,
    ⟨some 23, .mov (.t 22), some (16, true)⟩,
    ⟨some 24, .mov (.t 5), some (23, false)⟩,
    ⟨some 25, .bins .eql (.t 24) (.c (.str [108, 111, 97, 100])), some (23, false)⟩,
    ⟨some 26, .pick (.t 23) (.c (.bool true)) (.t 25), some (16, true)⟩,
    ⟨some 27, .mov (.t 26), some (16, true)⟩,
    ⟨some 28, .mov (.t 5), some (27, false)⟩,
    ⟨some 29, .bins .eql (.t 28) (.c (.str [100, 100, 120])), some (27, false)⟩,
    ⟨some 30, .pick (.t 27) (.c (.bool true)) (.t 29), some (16, true)⟩,
    ⟨some 31, .mov (.t 30), some (16, true)⟩,
    ⟨some 32, .mov (.t 5), some (31, false)⟩,
    ⟨some 33, .bins .eql (.t 32) (.c (.str [100, 100, 121])), some (31, false)⟩,
    ⟨some 34, .pick (.t 31) (.c (.bool true)) (.t 33), some (16, true)⟩,
    ⟨some 35, .pick (.t 16) (.t 34) (.c (.bool false)), none⟩,
    ⟨some 4, .mov (.t 35), none⟩])
  (.ret))))) }
/-- frustum/frustumref20.of -/
def p154 : PFn := { nparams := 1, ntmps := 5, nobjs := 1, pure := true, keep := false, results := [⟨2, some (some 2)⟩], body := (.cln (List.range 1) (.seq (.reg [⟨some 2, .alloc 0 (.agg [.int .i64 0, .str []]), none⟩])
  (.seq (.reg [⟨some 3, .mov (.t 0), none⟩,
    ⟨some 4, .build [.int .i64 0, .str []] [(0, 1, .t 3)], none⟩,
    ⟨none, .store (some 2) (.t 2) (.t 4), none⟩])
  (.ret)))) }
/-- frustum/frustumref20.literal -/
def p148 : PFn := { nparams := 3, ntmps := 20, nobjs := 1, pure := true, keep := false, results := [⟨6, some (some 2)⟩, ⟨7, none⟩], body := (.cln (List.range 3) (.seq (.reg [⟨some 3, .boxi (.t 0), none⟩,
    ⟨some 6, .alloc 0 (.agg [.int .i64 0, .str []]), none⟩,
    ⟨some 7, .mov (.c (.int .i64 0)), none⟩])
  (.seq (.seq (.reg [⟨some 8, .faddr 3 (.t 3), none⟩,
    ⟨some 9, .load none (.t 8), none⟩,
    ⟨some 10, .bini .lss (.t 9) (.c (.int .i64 0)), none⟩,
    ⟨some 11, .mov (.t 10), none⟩,
    ⟨some 12, .faddr 3 (.t 3), some (11, false)⟩,
    ⟨some 13, .load none (.t 12), some (11, false)⟩,
    ⟨some 14, .mov (.t 2), some (11, false)⟩,
    ⟨some 15, .bini .gtr (.t 13) (.t 14), some (11, false)⟩,
    ⟨some 16, .pick (.t 11) (.c (.bool true)) (.t 15), none⟩])
  (.cond (.t 16) (.seq (.reg [⟨some 17, .build [.int .i64 0, .str []] [], none⟩,
    ⟨none, .store (some 2) (.t 6) (.t 17), none⟩,
    ⟨some 7, .mov (.c (.int .i64 6)), none⟩])
  (.ret)) (.skip)))
  (.cln [1, 6] (.seq (.reg [⟨some 18, .mov (.t 1), none⟩,
    ⟨some 19, .call (.c (.fn 154 [] [])) [.t 18], none⟩,
    ⟨none, .store (some 2) (.t 6) (.t 19), none⟩,
    ⟨some 7, .mov (.c (.int .i64 0)), none⟩])
  (.ret)))))) }
def p179l0 : PC := .loop (.cln [0, 1, 5, 6] (.seq (.seq (.reg [⟨some 7, .mov (.t 6), none⟩,
    ⟨some 8, .mov (.t 0), none⟩,
    ⟨some 9, .lenl (.t 8), none⟩,
    ⟨some 10, .bini .lss (.t 7) (.t 9), none⟩])
  (.cond (.t 10) (.skip) (.exit 0)))
  (.cln [0, 1, 5, 6] (.seq (.block 1 (.seq (.reg [⟨some 13, .mov (.t 0), none⟩,
    ⟨some 14, .mov (.t 6), none⟩,
    ⟨some 15, .iaddr 3 (.t 13) (.t 14), none⟩,
    ⟨some 16, .faddr 0 (.t 15), none⟩,
    ⟨some 17, .load none (.t 16), none⟩,
    ⟨some 18, .mov (.t 1), none⟩,
    ⟨some 19, .bins .eql (.t 17) (.t 18), none⟩])
  (.cond (.t 19) (.reg [⟨some 20, .mov (.t 6), none⟩,
    ⟨some 5, .mov (.t 20), none⟩]) (.skip))))
  (.cln [0, 1, 5, 6] (.reg [⟨some 11, .mov (.t 6), none⟩,
    ⟨some 12, .bini .add (.t 11) (.c (.int .i64 1)), none⟩,
    ⟨some 6, .mov (.t 12), none⟩]))))))
/-- frustum/frustumref20.last -/
def p179 : PFn := { nparams := 2, ntmps := 22, nobjs := 0, pure := true, keep := false, results := [⟨4, none⟩], body := (.cln (List.range 2) (.seq (.reg [⟨some 4, .mov (.c (.int .i64 0)), none⟩])
  (.seq (.reg [⟨some 5, .mov (.c (.int .i64 (-1))), none⟩])
  (.seq (.seq (.reg [⟨some 6, .mov (.c (.int .i64 0)), none⟩])
  (.block 0 (p179l0)))
  (.cln [5] (.seq (.reg [⟨some 21, .mov (.t 5), none⟩,
    ⟨some 4, .mov (.t 21), none⟩])
  (.ret))))))) }
/-- frustum/frustumref20.variable -/
def p149 : PFn := { nparams := 3, ntmps := 59, nobjs := 1, pure := true, keep := false, results := [⟨6, some (some 2)⟩, ⟨7, none⟩], body := (.cln (List.range 3) (.seq (.reg [⟨some 3, .boxi (.t 0), none⟩,
    ⟨some 6, .alloc 0 (.agg [.int .i64 0, .str []]), none⟩,
    ⟨some 7, .mov (.c (.bool false)), none⟩])
  (.seq (.seq (.reg [⟨some 12, .mov (.t 1), none⟩,
    ⟨some 13, .mov (.t 2), none⟩,
    ⟨some 14, .call (.c (.fn 179 [] [])) [.t 12, .t 13], none⟩,
    ⟨some 8, .mov (.t 14), none⟩])
  (.seq (.reg [⟨some 15, .mov (.t 8), none⟩,
    ⟨some 16, .bini .geq (.t 15) (.c (.int .i64 0)), none⟩])
  (.cond (.t 16) (.seq (.reg [⟨some 17, .mov (.t 1), none⟩,
    ⟨some 18, .mov (.t 8), none⟩,
    ⟨some 19, .iaddr 3 (.t 17) (.t 18), none⟩,
    ⟨some 20, .faddr 1 (.t 19), none⟩,
    ⟨some 21, .load (some 2) (.t 20), none⟩,
    ⟨none, .store (some 2) (.t 6) (.t 21), none⟩,
    ⟨some 7, .mov (.c (.bool true)), none⟩])
  (.ret)) (.skip))))
  (.cln [2, 3, 6] (.seq (.seq (.reg [⟨some 22, .faddr 2 (.t 3), none⟩,
    ⟨some 23, .load none (.t 22), none⟩,
    ⟨some 24, .mov (.t 2), none⟩,
    ⟨some 25, .call (.c (.fn 101 [] [])) [.t 23, .t 24], none⟩,
    ⟨some 9, .mov (.t 25), none⟩])
  (.seq (.reg [⟨some 26, .mov (.t 9), none⟩,
    ⟨some 27, .bini .geq (.t 26) (.c (.int .i64 0)), none⟩])
  (.cond (.t 27) (.seq (.reg [⟨some 28, .faddr 2 (.t 3), none⟩,
    ⟨some 29, .load none (.t 28), none⟩,
    ⟨some 30, .mov (.t 9), none⟩,
    ⟨some 31, .iaddr 3 (.t 29) (.t 30), none⟩,
    ⟨some 32, .faddr 1 (.t 31), none⟩,
    ⟨some 33, .load (some 2) (.t 32), none⟩,
    ⟨none, .store (some 2) (.t 6) (.t 33), none⟩,
    ⟨some 7, .mov (.c (.bool true)), none⟩])
  (.ret)) (.skip))))
  (.cln [2, 3, 6] (.seq (.seq (.reg [⟨some 34, .faddr 5 (.t 3), none⟩,
    ⟨some 35, .load none (.t 34), none⟩,
    ⟨some 36, .mov (.t 2), none⟩,
    ⟨some 37, .call (.c (.fn 101 [] [])) [.t 35, .t 36], none⟩,
    ⟨some 10, .mov (.t 37), none⟩])
  (.seq (.reg [⟨some 38, .mov (.t 10), none⟩,
    ⟨some 39, .bini .geq (.t 38) (.c (.int .i64 0)), none⟩])
  (.cond (.t 39) (.seq (.reg [⟨some 40, .faddr 5 (.t 3), none⟩,
    ⟨some 41, .load none (.t 40), none⟩,
    ⟨some 42, .mov (.t 10), none⟩,
    ⟨some 43, .iaddr 3 (.t 41) (.t 42), none⟩,
    ⟨some 44, .faddr 1 (.t 43), none⟩,
    ⟨some 45, .load (some 2) (.t 44), none⟩,
    ⟨none, .store (some 2) (.t 6) (.t 45), none⟩,
    ⟨some 7, .mov (.c (.bool true)), none⟩])
  (.ret)) (.skip))))
  (.cln [2, 3, 6] (.seq (.seq (.reg [⟨some 46, .faddr 6 (.t 3), none⟩,
    ⟨some 47, .load none (.t 46), none⟩,
    ⟨some 48, .mov (.t 2), none⟩,
    ⟨some 49, .call (.c (.fn 101 [] [])) [.t 47, .t 48], none⟩,
    ⟨some 11, .mov (.t 49), none⟩])
  (.seq (.reg [⟨some 50, .mov (.t 11), none⟩,
    ⟨some 51, .bini .geq (.t 50) (.c (.int .i64 0)), none⟩])
  (.cond (.t 51) (.seq (.reg [⟨some 52, .faddr 6 (.t 3), none⟩,
    ⟨some 53, .load none (.t 52), none⟩,
    ⟨some 54, .mov (.t 11), none⟩,
    ⟨some 55, .iaddr 3 (.t 53) (.t 54), none⟩,
    ⟨some 56, .faddr 1 (.t 55), none⟩,
    ⟨some 57, .load (some 2) (.t 56), none⟩,
    ⟨none, .store (some 2) (.t 6) (.t 57), none⟩,
    ⟨some 7, .mov (.c (.bool true)), none⟩])
  (.ret)) (.skip))))
  (.cln [6] (.seq (.reg [⟨some 58, .build [.int .i64 0, .str []] [], none⟩,
    ⟨none, .store (some 2) (.t 6) (.t 58), none⟩,
    ⟨some 7, .mov (.c (.bool false)), none⟩])
  (.ret)))))))))))) }
/-- frustum/frustumref20.vector -/
def p182 : PFn := { nparams := 1, ntmps := 10, nobjs := 0, pure := true, keep := false, results := [⟨2, none⟩], body := (.cln (List.range 1) (.seq (.reg [⟨some 1, .boxi (.t 0), none⟩,
    ⟨some 2, .mov (.c (.bool false)), none⟩])
  (.seq (.reg [⟨some 3, .load (some 2) (.t 1), none⟩,
    ⟨some 4, .call (.c (.fn 153 [] [])) [.t 3], none⟩,
    ⟨some 5, .mov (.t 4), none⟩,
    ⟨some 6, .faddr 1 (.t 1), some (5, true)⟩,
    ⟨some 7, .load none (.t 6), some (5, true)⟩,
    ⟨some 8, .bins .eql (.t 7) (.c (.str [])), some (5, true)⟩,
    ⟨some 9, .pick (.t 5) (.t 8) (.c (.bool false)), none⟩,
    ⟨some 2, .mov (.t 9), none⟩])
  (.ret)))) }
/-- frustum/frustumref20.arithmetic -/
def p181 : PFn := { nparams := 1, ntmps := 20, nobjs := 0, pure := true, keep := false, results := [⟨2, none⟩], body := (.cln (List.range 1) (.seq (.reg [⟨some 1, .boxi (.t 0), none⟩,
    ⟨some 2, .mov (.c (.bool false)), none⟩])
  (.seq (.regd [⟨0, ⟨some 3, .load (some 2) (.t 1), none⟩, false, [], []⟩,
    ⟨1, ⟨some 4, .call (.c (.fn 154 [] [])) [.c (.int .i64 1)], none⟩, true, [], [0]⟩,
    ⟨2, ⟨some 5, .eq false (.parts [(0, 1, .ei), (1, 1, .es)]) (.t 3) (.t 4), none⟩, false, [0, 1], []⟩,
    ⟨3, ⟨some 6, .mov (.t 5), none⟩, false, [0, 1, 2], []⟩,
    ⟨4, ⟨some 7, .load (some 2) (.t 1), some (6, false)⟩, false, [0, 1, 2, 3], []⟩,
    ⟨5, ⟨some 8, .call (.c (.fn 154 [] [])) [.c (.int .i64 2)], some (6, false)⟩, true, [0, 1, 2, 3], [4]⟩,
    ⟨6, ⟨some 9, .eq false (.parts [(0, 1, .ei), (1, 1, .es)]) (.t 7) (.t 8), some (6, false)⟩, false, .range 6, []⟩,
    ⟨7, ⟨some 10, .pick (.t 6) (.c (.bool true)) (.t 9), none⟩, false, .range 7, []⟩,
    ⟨8, ⟨some 11, .mov (.t 10), none⟩, false, .range 8, []⟩,
    ⟨9, ⟨some 12, .load (some 2) (.t 1), some (11, false)⟩, false, .range 9, []⟩,
    ⟨10, ⟨some 13, .call (.c (.fn 154 [] [])) [.c (.int .i64 3)], some (11, false)⟩, true, .range 9, [9]⟩,
    ⟨11, ⟨some 14, .eq false (.parts [(0, 1, .ei), (1, 1, .es)]) (.t 12) (.t 13), some (11, false)⟩, false, .range 11, []⟩,
    ⟨12, ⟨some 15, .pick (.t 11) (.c (.bool true)) (.t 14), none⟩, false, .range 12, []⟩,
    ⟨13, ⟨some 16, .mov (.t 15), none⟩, false, .range 13, []⟩,
    ⟨14, ⟨some 17, .load (some 2) (.t 1), some (16, false)⟩, false, .range 14, []⟩,
    ⟨15, ⟨some 18, .call (.c (.fn 182 [] [])) [.t 17], some (16, false)⟩, true, .range 15, []⟩,
    ⟨16, ⟨some 19, .pick (.t 16) (.c (.bool true)) (.t 18), none⟩, false, .range 16, []⟩,
    ⟨17, ⟨some 2, .mov (.t 19), none⟩, false, .range 17, []⟩] (.range 18) 20)
  (.ret)))) }
/-- frustum/frustumref20.when -/
def p180 : PFn := { nparams := 2, ntmps := 10, nobjs := 1, pure := true, keep := false, results := [⟨4, some (some 2)⟩, ⟨5, none⟩], body := (.cln (List.range 2) (.seq (.reg [⟨some 3, .boxi (.t 1), none⟩,
    ⟨some 4, .alloc 0 (.agg [.int .i64 0, .str []]), none⟩,
    ⟨some 5, .mov (.c (.int .i64 0)), none⟩])
  (.seq (.seq (.reg [⟨some 6, .mov (.t 0), none⟩,
    ⟨some 7, .notb (.t 6), none⟩])
  (.cond (.t 7) (.seq (.reg [⟨some 8, .build [.int .i64 0, .str []] [], none⟩,
    ⟨none, .store (some 2) (.t 4) (.t 8), none⟩,
    ⟨some 5, .mov (.c (.int .i64 12)), none⟩])
  (.ret)) (.skip)))
  (.cln [3, 4] (.seq (.reg [⟨some 9, .load (some 2) (.t 3), none⟩,
    ⟨none, .store (some 2) (.t 4) (.t 9), none⟩,
    ⟨some 5, .mov (.c (.int .i64 0)), none⟩])
  (.ret)))))) }
/-- frustum/frustumref20.unary -/
def p150 : PFn := { nparams := 2, ntmps := 30, nobjs := 1, pure := true, keep := false, results := [⟨4, some (some 2)⟩, ⟨5, none⟩], body := (.cln (List.range 2) (.seq (.reg [⟨some 3, .boxi (.t 1), none⟩,
    ⟨some 4, .alloc 0 (.agg [.int .i64 0, .str []]), none⟩,
    ⟨some 5, .mov (.c (.int .i64 0)), none⟩])
  (.seq (.seq (.reg [⟨some 6, .mov (.t 0), none⟩])
  (.block 0 (.seq (.reg [⟨some 8, .bini .eql (.t 6) (.c (.int .i64 17)), none⟩,
    ⟨some 7, .mov (.t 8), none⟩])
  (.cond (.t 7) (.seq (.regd [⟨0, ⟨some 9, .load (some 2) (.t 3), none⟩, false, [], []⟩,
    ⟨2, ⟨some 11, .load (some 2) (.t 3), none⟩, false, [], []⟩,
    ⟨1, ⟨some 10, .call (.c (.fn 181 [] [])) [.t 9], none⟩, true, [0], [2]⟩,
    ⟨3, ⟨some 12, .call (.c (.fn 180 [] [])) [.t 10, .t 11], none⟩, true, [0, 1, 2], []⟩,
    ⟨4, ⟨some 13, .extract (.t 12) 0, none⟩, false, [0, 1, 2, 3], []⟩,
    ⟨5, ⟨some 14, .extract (.t 12) 1, none⟩, false, [0, 1, 2, 3], []⟩,
    ⟨6, ⟨none, .store (some 2) (.t 4) (.t 13), none⟩, true, .range 6, []⟩,
    ⟨7, ⟨some 5, .mov (.t 14), none⟩, false, .range 7, []⟩] (.range 8) 15)
  (.ret)) (.seq (.reg [⟨some 16, .bini .eql (.t 6) (.c (.int .i64 18)), none⟩,
    ⟨some 15, .mov (.t 16), none⟩])
  (.cond (.t 15) (.seq (.regd [⟨0, ⟨some 17, .load (some 2) (.t 3), none⟩, false, [], []⟩,
    ⟨8, ⟨some 25, .load (some 2) (.t 3), none⟩, false, [], []⟩,
    ⟨1, ⟨some 18, .call (.c (.fn 154 [] [])) [.c (.int .i64 3)], none⟩, true, [], [0, 8]⟩,
    ⟨2, ⟨some 19, .eq false (.parts [(0, 1, .ei), (1, 1, .es)]) (.t 17) (.t 18), none⟩, false, [0, 1], []⟩,
    ⟨3, ⟨some 20, .mov (.t 19), none⟩, false, [0, 1, 2], []⟩,
    ⟨4, ⟨some 21, .load (some 2) (.t 3), some (20, false)⟩, false, [0, 1, 2, 3], []⟩,
    ⟨5, ⟨some 22, .call (.c (.fn 154 [] [])) [.c (.int .i64 4)], some (20, false)⟩, true, [0, 1, 2, 3], [8, 4]⟩,
    ⟨6, ⟨some 23, .eq false (.parts [(0, 1, .ei), (1, 1, .es)]) (.t 21) (.t 22), some (20, false)⟩, false, .range 6, []⟩,
    ⟨7, ⟨some 24, .pick (.t 20) (.c (.bool true)) (.t 23), none⟩, false, .range 7, []⟩,
    ⟨9, ⟨some 26, .call (.c (.fn 180 [] [])) [.t 24, .t 25], none⟩, true, .range 9, []⟩,
    ⟨10, ⟨some 27, .extract (.t 26) 0, none⟩, false, .range 10, []⟩,
    ⟨11, ⟨some 28, .extract (.t 26) 1, none⟩, false, .range 10, []⟩,
    ⟨12, ⟨none, .store (some 2) (.t 4) (.t 27), none⟩, true, .range 12, []⟩,
    ⟨13, ⟨some 5, .mov (.t 28), none⟩, false, .range 13, []⟩] (.range 14) 29)
  (.ret)) (.skip)))))))
  (.cln [4] (.seq (.reg [⟨some 29, .build [.int .i64 0, .str []] [], none⟩,
    ⟨none, .store (some 2) (.t 4) (.t 29), none⟩,
    ⟨some 5, .mov (.c (.int .i64 10)), none⟩])
  (.ret)))))) }
/-- frustum/frustumref20.binary -/
def p151 : PFn := { nparams := 3, ntmps := 124, nobjs := 3, pure := true, keep := false, results := [⟨6, some (some 2)⟩, ⟨7, none⟩], body := (.cln (List.range 3) (.seq (.reg [⟨some 4, .boxi (.t 1), none⟩,
    ⟨some 5, .boxi (.t 2), none⟩,
    ⟨some 6, .alloc 0 (.agg [.int .i64 0, .str []]), none⟩,
    ⟨some 7, .mov (.c (.int .i64 0)), none⟩])
  (.seq (.reg [⟨some 10, .call (.c (.fn 154 [] [])) [.c (.int .i64 3)], none⟩,
    ⟨some 11, .call (.c (.fn 154 [] [])) [.c (.int .i64 4)], none⟩,
    ⟨some 8, .alloc 1 (.agg [.int .i64 0, .str []]), none⟩,
    ⟨some 9, .alloc 2 (.agg [.int .i64 0, .str []]), none⟩,
    ⟨none, .store (some 2) (.t 8) (.t 10), none⟩,
    ⟨none, .store (some 2) (.t 9) (.t 11), none⟩])
  (.seq (.seq (.reg [⟨some 12, .mov (.t 0), none⟩])
  (.block 0 (.seq (.seq (.reg [⟨some 14, .bini .eql (.t 12) (.c (.int .i64 1)), none⟩,
    ⟨some 13, .mov (.t 14), none⟩])
  (.cond (.t 13) (.skip) (.reg [⟨some 15, .bini .eql (.t 12) (.c (.int .i64 2)), none⟩,
    ⟨some 13, .mov (.t 15), none⟩])))
  (.cln [4, 5, 6, 8, 9, 12, 13] (.cond (.t 13) (.seq (.regd [⟨0, ⟨some 16, .load (some 2) (.t 4), none⟩, false, [], []⟩,
    ⟨1, ⟨some 17, .load (some 2) (.t 5), none⟩, false, [], []⟩,
    ⟨2, ⟨some 18, .eq false (.parts [(0, 1, .ei), (1, 1, .es)]) (.t 16) (.t 17), none⟩, false, [0, 1], []⟩,
    ⟨3, ⟨some 19, .mov (.t 18), none⟩, false, [0, 1, 2], []⟩,
    ⟨4, ⟨some 20, .load (some 2) (.t 4), some (19, true)⟩, false, [0, 1, 2, 3], []⟩,
    ⟨7, ⟨some 23, .load (some 2) (.t 4), none⟩, false, [], []⟩,
    ⟨5, ⟨some 21, .call (.c (.fn 181 [] [])) [.t 20], some (19, true)⟩, true, .range 5, [7]⟩,
    ⟨6, ⟨some 22, .pick (.t 19) (.t 21) (.c (.bool false)), none⟩, false, .range 6, []⟩,
    ⟨8, ⟨some 24, .call (.c (.fn 180 [] [])) [.t 22, .t 23], none⟩, true, .range 8, []⟩,
    ⟨9, ⟨some 25, .extract (.t 24) 0, none⟩, false, .range 9, []⟩,
    ⟨10, ⟨some 26, .extract (.t 24) 1, none⟩, false, .range 9, []⟩,
    ⟨11, ⟨none, .store (some 2) (.t 6) (.t 25), none⟩, true, .range 11, []⟩,
    ⟨12, ⟨some 7, .mov (.t 26), none⟩, false, .range 12, []⟩] (.range 13) 27)
  (.ret)) (.seq (.seq (.reg [⟨some 28, .bini .eql (.t 12) (.c (.int .i64 3)), none⟩,
    ⟨some 27, .mov (.t 28), none⟩])
  (.cond (.t 27) (.skip) (.reg [⟨some 29, .bini .eql (.t 12) (.c (.int .i64 4)), none⟩,
    ⟨some 27, .mov (.t 29), none⟩])))
  (.cln [4, 5, 6, 8, 9, 12, 27] (.cond (.t 27) (.seq (.regd [⟨0, ⟨some 30, .load (some 2) (.t 4), none⟩, false, [], []⟩,
    ⟨1, ⟨some 31, .load (some 2) (.t 5), none⟩, false, [], []⟩,
    ⟨2, ⟨some 32, .eq false (.parts [(0, 1, .ei), (1, 1, .es)]) (.t 30) (.t 31), none⟩, false, [0, 1], []⟩,
    ⟨3, ⟨some 33, .mov (.t 32), none⟩, false, [0, 1, 2], []⟩,
    ⟨4, ⟨some 34, .load (some 2) (.t 4), some (33, true)⟩, false, [0, 1, 2, 3], []⟩,
    ⟨16, ⟨some 46, .load (some 2) (.t 4), none⟩, false, [], []⟩,
    ⟨5, ⟨some 35, .call (.c (.fn 181 [] [])) [.t 34], some (33, true)⟩, true, .range 5, [16]⟩,
    ⟨6, ⟨some 36, .pick (.t 33) (.t 35) (.c (.bool false)), none⟩, false, .range 6, []⟩,
    ⟨7, ⟨some 37, .mov (.t 36), none⟩, false, .range 7, []⟩,
    ⟨8, ⟨some 38, .load (some 2) (.t 4), some (37, false)⟩, false, .range 8, []⟩,
    ⟨9, ⟨some 39, .call (.c (.fn 182 [] [])) [.t 38], some (37, false)⟩, true, .range 9, [16]⟩,
    ⟨10, ⟨some 40, .mov (.t 39), some (37, false)⟩, false, .range 10, []⟩,
    ⟨11, ⟨some 41, .load (some 2) (.t 5), some (40, true)⟩, false, .range 11, []⟩,
    ⟨12, ⟨some 42, .call (.c (.fn 154 [] [])) [.c (.int .i64 1)], some (40, true)⟩, true, .range 11, [16, 11]⟩,
    ⟨13, ⟨some 43, .eq false (.parts [(0, 1, .ei), (1, 1, .es)]) (.t 41) (.t 42), some (40, true)⟩, false, .range 13, []⟩,
    ⟨14, ⟨some 44, .pick (.t 40) (.t 43) (.c (.bool false)), some (37, false)⟩, false, .range 14, []⟩,
    ⟨15, ⟨some 45, .pick (.t 37) (.c (.bool true)) (.t 44), none⟩, false, .range 15, []⟩,
    ⟨17, ⟨some 47, .call (.c (.fn 180 [] [])) [.t 45, .t 46], none⟩, true, .range 17, []⟩,
    ⟨18, ⟨some 48, .extract (.t 47) 0, none⟩, false, .range 18, []⟩,
    ⟨19, ⟨some 49, .extract (.t 47) 1, none⟩, false, .range 18, []⟩,
    ⟨20, ⟨none, .store (some 2) (.t 6) (.t 48), none⟩, true, .range 20, []⟩,
    ⟨21, ⟨some 7, .mov (.t 49), none⟩, false, .range 21, []⟩] (.range 22) 50)
  (.ret)) (.seq (.seq (.reg [⟨some 51, .bini .eql (.t 12) (.c (.int .i64 5)), none⟩,
    ⟨some 50, .mov (.t 51), none⟩])
  (.cond (.t 50) (.skip) (.seq (.reg [⟨some 52, .bini .eql (.t 12) (.c (.int .i64 9)), none⟩,
    ⟨some 50, .mov (.t 52), none⟩])
  (.cond (.t 50) (.skip) (.reg [⟨some 53, .bini .eql (.t 12) (.c (.int .i64 10)), none⟩,
    ⟨some 50, .mov (.t 53), none⟩])))))
  (.cln [4, 5, 6, 8, 9, 12, 50] (.cond (.t 50) (.seq (.regd [⟨0, ⟨some 54, .load (some 2) (.t 4), none⟩, false, [], []⟩,
    ⟨1, ⟨some 55, .load (some 2) (.t 8), none⟩, false, [], []⟩,
    ⟨2, ⟨some 56, .eq false (.parts [(0, 1, .ei), (1, 1, .es)]) (.t 54) (.t 55), none⟩, false, [0, 1], []⟩,
    ⟨3, ⟨some 57, .mov (.t 56), none⟩, false, [0, 1, 2], []⟩,
    ⟨4, ⟨some 58, .load (some 2) (.t 5), some (57, true)⟩, false, [0, 1, 2, 3], []⟩,
    ⟨5, ⟨some 59, .load (some 2) (.t 8), some (57, true)⟩, false, [0, 1, 2, 3], []⟩,
    ⟨6, ⟨some 60, .eq false (.parts [(0, 1, .ei), (1, 1, .es)]) (.t 58) (.t 59), some (57, true)⟩, false, .range 6, []⟩,
    ⟨7, ⟨some 61, .pick (.t 57) (.t 60) (.c (.bool false)), none⟩, false, .range 7, []⟩,
    ⟨8, ⟨some 62, .load (some 2) (.t 8), none⟩, false, [], []⟩,
    ⟨9, ⟨some 63, .call (.c (.fn 180 [] [])) [.t 61, .t 62], none⟩, true, .range 9, []⟩,
    ⟨10, ⟨some 64, .extract (.t 63) 0, none⟩, false, .range 10, []⟩,
    ⟨11, ⟨some 65, .extract (.t 63) 1, none⟩, false, .range 10, []⟩,
    ⟨12, ⟨none, .store (some 2) (.t 6) (.t 64), none⟩, true, .range 12, []⟩,
    ⟨13, ⟨some 7, .mov (.t 65), none⟩, false, .range 13, []⟩] (.range 14) 66)
  (.ret)) (.seq (.seq (.reg [⟨some 67, .bini .eql (.t 12) (.c (.int .i64 6)), none⟩,
    ⟨some 66, .mov (.t 67), none⟩])
  (.cond (.t 66) (.skip) (.seq (.reg [⟨some 68, .bini .eql (.t 12) (.c (.int .i64 7)), none⟩,
    ⟨some 66, .mov (.t 68), none⟩])
  (.cond (.t 66) (.skip) (.reg [⟨some 69, .bini .eql (.t 12) (.c (.int .i64 8)), none⟩,
    ⟨some 66, .mov (.t 69), none⟩])))))
  (.cln [4, 5, 6, 8, 9, 12, 66] (.cond (.t 66) (.seq (.regd [⟨0, ⟨some 70, .load (some 2) (.t 4), none⟩, false, [], []⟩,
    ⟨1, ⟨some 71, .load (some 2) (.t 5), none⟩, false, [], []⟩,
    ⟨2, ⟨some 72, .eq false (.parts [(0, 1, .ei), (1, 1, .es)]) (.t 70) (.t 71), none⟩, false, [0, 1], []⟩,
    ⟨3, ⟨some 73, .mov (.t 72), none⟩, false, [0, 1, 2], []⟩,
    ⟨4, ⟨some 74, .load (some 2) (.t 4), some (73, true)⟩, false, [0, 1, 2, 3], []⟩,
    ⟨5, ⟨some 75, .load (some 2) (.t 8), some (73, true)⟩, false, [0, 1, 2, 3], []⟩,
    ⟨6, ⟨some 76, .eq false (.parts [(0, 1, .ei), (1, 1, .es)]) (.t 74) (.t 75), some (73, true)⟩, false, .range 6, []⟩,
    ⟨7, ⟨some 77, .mov (.t 76), some (73, true)⟩, false, .range 7, []⟩,
    ⟨8, ⟨some 78, .load (some 2) (.t 4), some (77, false)⟩, false, .range 8, []⟩,
    ⟨9, ⟨some 79, .load (some 2) (.t 9), some (77, false)⟩, false, .range 8, []⟩,
    ⟨10, ⟨some 80, .eq false (.parts [(0, 1, .ei), (1, 1, .es)]) (.t 78) (.t 79), some (77, false)⟩, false, .range 10, []⟩,
    ⟨11, ⟨some 81, .pick (.t 77) (.c (.bool true)) (.t 80), some (73, true)⟩, false, .range 11, []⟩,
    ⟨12, ⟨some 82, .pick (.t 73) (.t 81) (.c (.bool false)), none⟩, false, .range 12, []⟩,
    ⟨13, ⟨some 83, .load (some 2) (.t 4), none⟩, false, [], []⟩,
    ⟨14, ⟨some 84, .call (.c (.fn 180 [] [])) [.t 82, .t 83], none⟩, true, .range 14, []⟩,
    ⟨15, ⟨some 85, .extract (.t 84) 0, none⟩, false, .range 15, []⟩,
    ⟨16, ⟨some 86, .extract (.t 84) 1, none⟩, false, .range 15, []⟩,
    ⟨17, ⟨none, .store (some 2) (.t 6) (.t 85), none⟩, true, .range 17, []⟩,
    ⟨18, ⟨some 7, .mov (.t 86), none⟩, false, .range 18, []⟩] (.range 19) 87)
  (.ret)) (.seq (.seq (.reg [⟨some 88, .bini .eql (.t 12) (.c (.int .i64 11)), none⟩,
    ⟨some 87, .mov (.t 88), none⟩])
  (.cond (.t 87) (.skip) (.seq (.reg [⟨some 89, .bini .eql (.t 12) (.c (.int .i64 12)), none⟩,
    ⟨some 87, .mov (.t 89), none⟩])
  (.cond (.t 87) (.skip) (.seq (.reg [⟨some 90, .bini .eql (.t 12) (.c (.int .i64 13)), none⟩,
    ⟨some 87, .mov (.t 90), none⟩])
  (.cond (.t 87) (.skip) (.reg [⟨some 91, .bini .eql (.t 12) (.c (.int .i64 14)), none⟩,
    ⟨some 87, .mov (.t 91), none⟩])))))))
  (.cln [4, 5, 6, 9, 12, 87] (.cond (.t 87) (.seq (.regd [⟨0, ⟨some 92, .load (some 2) (.t 4), none⟩, false, [], []⟩,
    ⟨1, ⟨some 93, .load (some 2) (.t 5), none⟩, false, [], []⟩,
    ⟨2, ⟨some 94, .eq false (.parts [(0, 1, .ei), (1, 1, .es)]) (.t 92) (.t 93), none⟩, false, [0, 1], []⟩,
    ⟨3, ⟨some 95, .mov (.t 94), none⟩, false, [0, 1, 2], []⟩,
    ⟨4, ⟨some 96, .load (some 2) (.t 4), some (95, true)⟩, false, [0, 1, 2, 3], []⟩,
    ⟨12, ⟨some 104, .load (some 2) (.t 9), none⟩, false, [], []⟩,
    ⟨5, ⟨some 97, .call (.c (.fn 181 [] [])) [.t 96], some (95, true)⟩, true, .range 5, [12]⟩,
    ⟨6, ⟨some 98, .pick (.t 95) (.t 97) (.c (.bool false)), none⟩, false, .range 6, []⟩,
    ⟨7, ⟨some 99, .mov (.t 98), none⟩, false, .range 7, []⟩,
    ⟨8, ⟨some 100, .load (some 2) (.t 4), some (99, true)⟩, false, .range 8, []⟩,
    ⟨9, ⟨some 101, .call (.c (.fn 182 [] [])) [.t 100], some (99, true)⟩, true, .range 9, [12]⟩,
    ⟨10, ⟨some 102, .notb (.t 101), some (99, true)⟩, false, .range 10, []⟩,
    ⟨11, ⟨some 103, .pick (.t 99) (.t 102) (.c (.bool false)), none⟩, false, .range 11, []⟩,
    ⟨13, ⟨some 105, .call (.c (.fn 180 [] [])) [.t 103, .t 104], none⟩, true, .range 13, []⟩,
    ⟨14, ⟨some 106, .extract (.t 105) 0, none⟩, false, .range 14, []⟩,
    ⟨15, ⟨some 107, .extract (.t 105) 1, none⟩, false, .range 14, []⟩,
    ⟨16, ⟨none, .store (some 2) (.t 6) (.t 106), none⟩, true, .range 16, []⟩,
    ⟨17, ⟨some 7, .mov (.t 107), none⟩, false, .range 17, []⟩] (.range 18) 108)
  (.ret)) (.seq (.seq (.reg [⟨some 109, .bini .eql (.t 12) (.c (.int .i64 15)), none⟩,
    ⟨some 108, .mov (.t 109), none⟩])
  (.cond (.t 108) (.skip) (.reg [⟨some 110, .bini .eql (.t 12) (.c (.int .i64 16)), none⟩,
    ⟨some 108, .mov (.t 110), none⟩])))
  (.cln [4, 5, 6, 9, 108] (.cond (.t 108) (.seq (.regd [⟨0, ⟨some 111, .load (some 2) (.t 4), none⟩, false, [], []⟩,
    ⟨1, ⟨some 112, .load (some 2) (.t 5), none⟩, false, [], []⟩,
    ⟨2, ⟨some 113, .eq false (.parts [(0, 1, .ei), (1, 1, .es)]) (.t 111) (.t 112), none⟩, false, [0, 1], []⟩,
    ⟨3, ⟨some 114, .mov (.t 113), none⟩, false, [0, 1, 2], []⟩,
    ⟨4, ⟨some 115, .faddr 0 (.t 4), some (114, true)⟩, false, [0, 1, 2, 3], []⟩,
    ⟨5, ⟨some 116, .load none (.t 115), some (114, true)⟩, false, .range 5, []⟩,
    ⟨6, ⟨some 117, .bini .neq (.t 116) (.c (.int .i64 8)), some (114, true)⟩, false, .range 6, []⟩,
    ⟨7, ⟨some 118, .pick (.t 114) (.t 117) (.c (.bool false)), none⟩, false, .range 7, []⟩,
    ⟨8, ⟨some 119, .load (some 2) (.t 9), none⟩, false, [], []⟩,
    ⟨9, ⟨some 120, .call (.c (.fn 180 [] [])) [.t 118, .t 119], none⟩, true, .range 9, []⟩,
    ⟨10, ⟨some 121, .extract (.t 120) 0, none⟩, false, .range 10, []⟩,
    ⟨11, ⟨some 122, .extract (.t 120) 1, none⟩, false, .range 10, []⟩,
    ⟨12, ⟨none, .store (some 2) (.t 6) (.t 121), none⟩, true, .range 12, []⟩,
    ⟨13, ⟨some 7, .mov (.t 122), none⟩, false, .range 13, []⟩] (.range 14) 123)
  (.ret)) (.skip)))))))))))))))))))))
  (.cln [6] (.seq (.reg [⟨some 123, .build [.int .i64 0, .str []] [], none⟩,
    ⟨none, .store (some 2) (.t 6) (.t 123), none⟩,
    ⟨some 7, .mov (.c (.int .i64 10)), none⟩])
  (.ret))))))) }
def p152l0 : PC := .loop (.cln [2, 4, 6, 8, 9] (.seq (.seq (.reg [⟨some 15, .mov (.t 9), none⟩,
    ⟨some 16, .faddr 0 (.t 4), none⟩,
    ⟨some 17, .load none (.t 16), none⟩,
    ⟨some 18, .bini .add (.c (.int .i64 2)) (.t 17), none⟩,
    ⟨some 19, .bini .sub (.t 18) (.c (.int .i64 5)), none⟩,
    ⟨some 20, .bini .lss (.t 15) (.t 19), none⟩])
  (.cond (.t 20) (.skip) (.exit 0)))
  (.cln [2, 4, 6, 8, 9] (.seq (.block 1 (.seq (.reg [⟨some 23, .mov (.t 8), none⟩,
    ⟨some 24, .mov (.t 9), none⟩,
    ⟨some 25, .iaddr 1 (.t 23) (.t 24), none⟩,
    ⟨some 26, .load none (.t 25), none⟩,
    ⟨some 27, .mov (.t 2), none⟩,
    ⟨some 28, .bins .eql (.t 26) (.t 27), none⟩])
  (.cond (.t 28) (.seq (.reg [⟨some 29, .call (.c (.fn 154 [] [])) [.c (.int .i64 1)], none⟩,
    ⟨none, .store (some 2) (.t 6) (.t 29), none⟩,
    ⟨some 7, .mov (.c (.int .i64 0)), none⟩])
  (.ret)) (.skip))))
  (.cln [2, 4, 6, 8, 9] (.reg [⟨some 21, .mov (.t 9), none⟩,
    ⟨some 22, .bini .add (.t 21) (.c (.int .i64 1)), none⟩,
    ⟨some 9, .mov (.t 22), none⟩]))))))
/-- frustum/frustumref20.member -/
def p152 : PFn := { nparams := 3, ntmps := 62, nobjs := 1, pure := true, keep := false, results := [⟨6, some (some 2)⟩, ⟨7, none⟩], body := (.cln (List.range 3) (.seq (.reg [⟨some 3, .boxi (.t 0), none⟩,
    ⟨some 4, .boxi (.t 1), none⟩,
    ⟨some 6, .alloc 0 (.agg [.int .i64 0, .str []]), none⟩,
    ⟨some 7, .mov (.c (.int .i64 0)), none⟩])
  (.seq (.seq (.reg [⟨some 12, .load (some 2) (.t 4), none⟩,
    ⟨some 13, .call (.c (.fn 153 [] [])) [.t 12], none⟩])
  (.cond (.t 13) (.seq (.reg [⟨some 14, .bsl [.str [], .str [], .str [], .str []] [(0, .c (.str [120])), (1, .c (.str [121])), (2, .c (.str [122])), (3, .c (.str [119]))], none⟩,
    ⟨some 8, .mov (.t 14), none⟩])
  (.seq (.seq (.reg [⟨some 9, .mov (.c (.int .i64 0)), none⟩])
  (.block 0 (p152l0)))
  (.cln [6] (.seq (.reg [⟨some 30, .build [.int .i64 0, .str []] [], none⟩,
    ⟨none, .store (some 2) (.t 6) (.t 30), none⟩,
    ⟨some 7, .mov (.c (.int .i64 13)), none⟩])
  (.ret))))) (.skip)))
  (.cln [2, 3, 4, 6] (.seq (.seq (.reg [⟨some 31, .faddr 0 (.t 4), none⟩,
    ⟨some 32, .load none (.t 31), none⟩,
    ⟨some 33, .bini .neq (.t 32) (.c (.int .i64 8)), none⟩])
  (.cond (.t 33) (.seq (.reg [⟨some 34, .build [.int .i64 0, .str []] [], none⟩,
    ⟨none, .store (some 2) (.t 6) (.t 34), none⟩,
    ⟨some 7, .mov (.c (.int .i64 12)), none⟩])
  (.ret)) (.skip)))
  (.cln [2, 3, 4, 6] (.seq (.seq (.reg [⟨some 35, .load (some 9) (.t 3), none⟩,
    ⟨some 36, .faddr 1 (.t 4), none⟩,
    ⟨some 37, .load none (.t 36), none⟩,
    ⟨some 38, .call (.c (.fn 100 [] [])) [.t 35, .t 37], none⟩,
    ⟨some 10, .mov (.t 38), none⟩])
  (.seq (.reg [⟨some 39, .mov (.t 10), none⟩,
    ⟨some 40, .bini .geq (.t 39) (.c (.int .i64 0)), none⟩])
  (.cond (.t 40) (.seq (.reg [⟨some 41, .faddr 1 (.t 3), none⟩,
    ⟨some 42, .load none (.t 41), none⟩,
    ⟨some 43, .mov (.t 10), none⟩,
    ⟨some 44, .iaddr 2 (.t 42) (.t 43), none⟩,
    ⟨some 45, .faddr 1 (.t 44), none⟩,
    ⟨some 46, .load none (.t 45), none⟩,
    ⟨some 47, .mov (.t 2), none⟩,
    ⟨some 48, .call (.c (.fn 101 [] [])) [.t 46, .t 47], none⟩,
    ⟨some 11, .mov (.t 48), none⟩])
  (.seq (.reg [⟨some 49, .mov (.t 11), none⟩,
    ⟨some 50, .bini .geq (.t 49) (.c (.int .i64 0)), none⟩])
  (.cond (.t 50) (.seq (.reg [⟨some 51, .faddr 1 (.t 3), none⟩,
    ⟨some 52, .load none (.t 51), none⟩,
    ⟨some 53, .mov (.t 10), none⟩,
    ⟨some 54, .iaddr 2 (.t 52) (.t 53), none⟩,
    ⟨some 55, .faddr 1 (.t 54), none⟩,
    ⟨some 56, .load none (.t 55), none⟩,
    ⟨some 57, .mov (.t 11), none⟩,
    ⟨some 58, .iaddr 3 (.t 56) (.t 57), none⟩,
    ⟨some 59, .faddr 1 (.t 58), none⟩,
    ⟨some 60, .load (some 2) (.t 59), none⟩,
    ⟨none, .store (some 2) (.t 6) (.t 60), none⟩,
    ⟨some 7, .mov (.c (.int .i64 0)), none⟩])
  (.ret)) (.skip)))) (.skip))))
  (.cln [6] (.seq (.reg [⟨some 61, .build [.int .i64 0, .str []] [], none⟩,
    ⟨none, .store (some 2) (.t 6) (.t 61), none⟩,
    ⟨some 7, .mov (.c (.int .i64 13)), none⟩])
  (.ret)))))))))) }
/-- frustum/frustumref20.Components -/
def p109 : PFn := { nparams := 2, ntmps := 10, nobjs := 0, pure := true, keep := false, results := [⟨4, none⟩], body := (.cln (List.range 2) (.seq (.reg [⟨some 2, .boxi (.t 0), none⟩,
    ⟨some 3, .boxi (.t 1), none⟩,
    ⟨some 4, .mov (.c (.int .i64 0)), none⟩])
  (.seq (.regd [⟨0, ⟨some 5, .load (some 9) (.t 2), none⟩, false, [], []⟩,
    ⟨1, ⟨some 6, .load (some 2) (.t 3), none⟩, false, [], []⟩,
    ⟨2, ⟨some 7, .load (some 9) (.t 2), none⟩, false, [], []⟩,
    ⟨3, ⟨some 8, .call (.c (.fn 145 [] [])) [.t 7], none⟩, true, [2], [0, 1]⟩,
    ⟨4, ⟨some 9, .call (.c (.fn 156 [] [])) [.t 5, .t 6, .t 8], none⟩, true, [0, 1, 2, 3], []⟩,
    ⟨5, ⟨some 4, .mov (.t 9), none⟩, false, .range 5, []⟩] (.range 6) 10)
  (.ret)))) }
def p183l0 : PC := .loop (.cln [2, 3, 6, 8, 9, 10, 11] (.seq (.seq (.reg [⟨some 17, .mov (.t 11), none⟩,
    ⟨some 18, .mov (.t 2), none⟩,
    ⟨some 19, .lenl (.t 18), none⟩,
    ⟨some 20, .bini .lss (.t 17) (.t 19), none⟩])
  (.cond (.t 20) (.skip) (.exit 0)))
  (.cln [2, 3, 6, 8, 9, 10, 11] (.seq (.block 1 (.seq (.regd [⟨0, ⟨some 23, .mov (.t 9), none⟩, false, [], []⟩,
    ⟨1, ⟨some 24, .load (some 9) (.t 3), none⟩, false, [], []⟩,
    ⟨2, ⟨some 25, .mov (.t 2), none⟩, false, [], []⟩,
    ⟨3, ⟨some 26, .mov (.t 11), none⟩, false, [], []⟩,
    ⟨4, ⟨some 27, .iaddr 2 (.t 25) (.t 26), none⟩, false, [2, 3], []⟩,
    ⟨5, ⟨some 28, .load (some 2) (.t 27), none⟩, false, [2, 3, 4], []⟩,
    ⟨6, ⟨some 29, .call (.c (.fn 109 [] [])) [.t 24, .t 28], none⟩, true, [1, 2, 3, 4, 5], []⟩,
    ⟨7, ⟨some 30, .bini .add (.t 23) (.t 29), none⟩, false, .range 7, []⟩,
    ⟨8, ⟨some 31, .mn (.c (.int .i64 1000)) [.t 30], none⟩, false, .range 8, []⟩,
    ⟨9, ⟨some 9, .mov (.t 31), none⟩, true, .range 9, []⟩] (.range 10) 32)
  (.regd [⟨0, ⟨some 32, .mov (.t 10), none⟩, false, [], []⟩,
    ⟨1, ⟨some 33, .mov (.t 32), none⟩, false, [0], []⟩,
    ⟨2, ⟨some 34, .mov (.t 2), some (33, true)⟩, false, [0, 1], []⟩,
    ⟨3, ⟨some 35, .mov (.t 11), some (33, true)⟩, false, [0, 1], []⟩,
    ⟨4, ⟨some 36, .iaddr 2 (.t 34) (.t 35), some (33, true)⟩, false, [0, 1, 2, 3], []⟩,
    ⟨5, ⟨some 37, .load (some 2) (.t 36), some (33, true)⟩, false, .range 5, []⟩,
    ⟨6, ⟨some 38, .call (.c (.fn 154 [] [])) [.c (.int .i64 1)], some (33, true)⟩, true, [0, 1], [4, 5]⟩,
    ⟨7, ⟨some 39, .eq false (.parts [(0, 1, .ei), (1, 1, .es)]) (.t 37) (.t 38), some (33, true)⟩, false, .range 7, []⟩,
    ⟨8, ⟨some 40, .mov (.t 39), some (33, true)⟩, false, .range 8, []⟩,
    ⟨9, ⟨some 41, .mov (.t 2), some (40, false)⟩, false, .range 9, []⟩,
    ⟨10, ⟨some 42, .mov (.t 11), some (40, false)⟩, false, .range 9, []⟩,
    ⟨11, ⟨some 43, .iaddr 2 (.t 41) (.t 42), some (40, false)⟩, false, .range 11, []⟩,
    ⟨12, ⟨some 44, .load (some 2) (.t 43), some (40, false)⟩, false, .range 12, []⟩,
    ⟨13, ⟨some 45, .call (.c (.fn 182 [] [])) [.t 44], some (40, false)⟩, true, .range 13, []⟩,
    ⟨14, ⟨some 46, .pick (.t 40) (.c (.bool true)) (.t 45), some (33, true)⟩, false, .range 14, []⟩,
    ⟨15, ⟨some 47, .pick (.t 33) (.t 46) (.c (.bool false)), none⟩, false, .range 15, []⟩,
    ⟨16, ⟨some 10, .mov (.t 47), none⟩, true, .range 16, []⟩] (.range 17) 48)))
  (.cln [2, 3, 6, 8, 9, 10, 11] (.reg [⟨some 21, .mov (.t 11), none⟩,
    ⟨some 22, .bini .add (.t 21) (.c (.int .i64 1)), none⟩,
    ⟨some 11, .mov (.t 22), none⟩]))))))
/-- frustum/frustumref20.construct -/
def p183 : PFn := { nparams := 3, ntmps := 116, nobjs := 3, pure := true, keep := false, results := [⟨6, some (some 2)⟩, ⟨7, none⟩], body := (.cln (List.range 3) (.seq (.reg [⟨some 3, .boxi (.t 0), none⟩,
    ⟨some 6, .alloc 0 (.agg [.int .i64 0, .str []]), none⟩,
    ⟨some 7, .mov (.c (.int .i64 0)), none⟩])
  (.seq (.reg [⟨some 13, .mov (.t 1), none⟩,
    ⟨some 14, .call (.c (.fn 154 [] [])) [.t 13], none⟩,
    ⟨some 8, .alloc 1 (.agg [.int .i64 0, .str []]), none⟩,
    ⟨none, .store (some 2) (.t 8) (.t 14), none⟩])
  (.seq (.seq (.reg [⟨some 15, .load (some 2) (.t 8), none⟩,
    ⟨some 16, .call (.c (.fn 153 [] [])) [.t 15], none⟩])
  (.cond (.t 16) (.seq (.reg [⟨some 9, .mov (.c (.int .i64 0)), none⟩])
  (.seq (.reg [⟨some 10, .mov (.c (.bool true)), none⟩])
  (.seq (.seq (.reg [⟨some 11, .mov (.c (.int .i64 0)), none⟩])
  (.block 0 (p183l0)))
  (.cln [3, 6, 8, 9, 10] (.seq (.seq (.reg [⟨some 48, .mov (.t 9), none⟩,
    ⟨some 49, .load (some 9) (.t 3), none⟩,
    ⟨some 50, .load (some 2) (.t 8), none⟩,
    ⟨some 51, .call (.c (.fn 109 [] [])) [.t 49, .t 50], none⟩,
    ⟨some 52, .bini .neq (.t 48) (.t 51), none⟩])
  (.cond (.t 52) (.seq (.reg [⟨some 53, .build [.int .i64 0, .str []] [], none⟩,
    ⟨none, .store (some 2) (.t 6) (.t 53), none⟩,
    ⟨some 7, .mov (.c (.int .i64 11)), none⟩])
  (.ret)) (.skip)))
  (.cln [6, 8, 10] (.seq (.reg [⟨some 54, .mov (.t 10), none⟩,
    ⟨some 55, .load (some 2) (.t 8), none⟩,
    ⟨some 56, .call (.c (.fn 180 [] [])) [.t 54, .t 55], none⟩,
    ⟨some 57, .extract (.t 56) 0, none⟩,
    ⟨some 58, .extract (.t 56) 1, none⟩,
    ⟨none, .store (some 2) (.t 6) (.t 57), none⟩,
    ⟨some 7, .mov (.t 58), none⟩])
  (.ret)))))))) (.skip)))
  (.cln [1, 2, 6, 8] (.seq (.seq (.reg [⟨some 59, .mov (.t 2), none⟩,
    ⟨some 60, .lenl (.t 59), none⟩,
    ⟨some 61, .bini .neq (.t 60) (.c (.int .i64 1)), none⟩])
  (.cond (.t 61) (.seq (.reg [⟨some 62, .build [.int .i64 0, .str []] [], none⟩,
    ⟨none, .store (some 2) (.t 6) (.t 62), none⟩,
    ⟨some 7, .mov (.c (.int .i64 11)), none⟩])
  (.ret)) (.skip)))
  (.cln [1, 2, 6, 8] (.seq (.reg [⟨some 63, .mov (.t 2), none⟩,
    ⟨some 64, .iaddr 2 (.t 63) (.c (.int .i64 0)), none⟩,
    ⟨some 65, .load (some 2) (.t 64), none⟩,
    ⟨some 12, .alloc 2 (.agg [.int .i64 0, .str []]), none⟩,
    ⟨none, .store (some 2) (.t 12) (.t 65), none⟩])
  (.seq (.seq (.reg [⟨some 66, .mov (.t 1), none⟩])
  (.block 2 (.seq (.reg [⟨some 68, .bini .eql (.t 66) (.c (.int .i64 1)), none⟩,
    ⟨some 67, .mov (.t 68), none⟩])
  (.cond (.t 67) (.seq (.regd [⟨0, ⟨some 69, .load (some 2) (.t 12), none⟩, false, [], []⟩,
    ⟨13, ⟨some 82, .load (some 2) (.t 8), none⟩, false, [], []⟩,
    ⟨1, ⟨some 70, .call (.c (.fn 154 [] [])) [.c (.int .i64 3)], none⟩, true, [], [0, 13]⟩,
    ⟨2, ⟨some 71, .eq false (.parts [(0, 1, .ei), (1, 1, .es)]) (.t 69) (.t 70), none⟩, false, [0, 1], []⟩,
    ⟨3, ⟨some 72, .mov (.t 71), none⟩, false, [0, 1, 2], []⟩,
    ⟨4, ⟨some 73, .load (some 2) (.t 12), some (72, false)⟩, false, [0, 1, 2, 3], []⟩,
    ⟨5, ⟨some 74, .call (.c (.fn 154 [] [])) [.c (.int .i64 2)], some (72, false)⟩, true, [0, 1, 2, 3], [13, 4]⟩,
    ⟨6, ⟨some 75, .eq false (.parts [(0, 1, .ei), (1, 1, .es)]) (.t 73) (.t 74), some (72, false)⟩, false, .range 6, []⟩,
    ⟨7, ⟨some 76, .pick (.t 72) (.c (.bool true)) (.t 75), none⟩, false, .range 7, []⟩,
    ⟨8, ⟨some 77, .mov (.t 76), none⟩, false, .range 8, []⟩,
    ⟨9, ⟨some 78, .load (some 2) (.t 12), some (77, false)⟩, false, .range 9, []⟩,
    ⟨10, ⟨some 79, .call (.c (.fn 154 [] [])) [.c (.int .i64 4)], some (77, false)⟩, true, .range 9, [13, 9]⟩,
    ⟨11, ⟨some 80, .eq false (.parts [(0, 1, .ei), (1, 1, .es)]) (.t 78) (.t 79), some (77, false)⟩, false, .range 11, []⟩,
    ⟨12, ⟨some 81, .pick (.t 77) (.c (.bool true)) (.t 80), none⟩, false, .range 12, []⟩,
    ⟨14, ⟨some 83, .call (.c (.fn 180 [] [])) [.t 81, .t 82], none⟩, true, .range 14, []⟩,
    ⟨15, ⟨some 84, .extract (.t 83) 0, none⟩, false, .range 15, []⟩,
    ⟨16, ⟨some 85, .extract (.t 83) 1, none⟩, false, .range 15, []⟩,
    ⟨17, ⟨none, .store (some 2) (.t 6) (.t 84), none⟩, true, .range 17, []⟩,
    ⟨18, ⟨some 7, .mov (.t 85), none⟩, false, .range 18, []⟩] (.range 19) 86)
  (.ret)) (.seq (.reg [⟨some 87, .bini .eql (.t 66) (.c (.int .i64 2)), none⟩,
    ⟨some 86, .mov (.t 87), none⟩])
  (.cond (.t 86) (.seq (.regd [⟨0, ⟨some 88, .load (some 2) (.t 12), none⟩, false, [], []⟩,
    ⟨3, ⟨some 91, .load (some 2) (.t 8), none⟩, false, [], []⟩,
    ⟨1, ⟨some 89, .call (.c (.fn 154 [] [])) [.c (.int .i64 1)], none⟩, true, [], [0, 3]⟩,
    ⟨2, ⟨some 90, .eq false (.parts [(0, 1, .ei), (1, 1, .es)]) (.t 88) (.t 89), none⟩, false, [0, 1], []⟩,
    ⟨4, ⟨some 92, .call (.c (.fn 180 [] [])) [.t 90, .t 91], none⟩, true, [0, 1, 2, 3], []⟩,
    ⟨5, ⟨some 93, .extract (.t 92) 0, none⟩, false, .range 5, []⟩,
    ⟨6, ⟨some 94, .extract (.t 92) 1, none⟩, false, .range 5, []⟩,
    ⟨7, ⟨none, .store (some 2) (.t 6) (.t 93), none⟩, true, .range 7, []⟩,
    ⟨8, ⟨some 7, .mov (.t 94), none⟩, false, .range 8, []⟩] (.range 9) 95)
  (.ret)) (.seq (.reg [⟨some 96, .bini .eql (.t 66) (.c (.int .i64 3)), none⟩,
    ⟨some 95, .mov (.t 96), none⟩])
  (.cond (.t 95) (.seq (.regd [⟨0, ⟨some 97, .load (some 2) (.t 12), none⟩, false, [], []⟩,
    ⟨8, ⟨some 105, .load (some 2) (.t 8), none⟩, false, [], []⟩,
    ⟨1, ⟨some 98, .call (.c (.fn 154 [] [])) [.c (.int .i64 1)], none⟩, true, [], [0, 8]⟩,
    ⟨2, ⟨some 99, .eq false (.parts [(0, 1, .ei), (1, 1, .es)]) (.t 97) (.t 98), none⟩, false, [0, 1], []⟩,
    ⟨3, ⟨some 100, .mov (.t 99), none⟩, false, [0, 1, 2], []⟩,
    ⟨4, ⟨some 101, .load (some 2) (.t 12), some (100, false)⟩, false, [0, 1, 2, 3], []⟩,
    ⟨5, ⟨some 102, .call (.c (.fn 154 [] [])) [.c (.int .i64 4)], some (100, false)⟩, true, [0, 1, 2, 3], [8, 4]⟩,
    ⟨6, ⟨some 103, .eq false (.parts [(0, 1, .ei), (1, 1, .es)]) (.t 101) (.t 102), some (100, false)⟩, false, .range 6, []⟩,
    ⟨7, ⟨some 104, .pick (.t 100) (.c (.bool true)) (.t 103), none⟩, false, .range 7, []⟩,
    ⟨9, ⟨some 106, .call (.c (.fn 180 [] [])) [.t 104, .t 105], none⟩, true, .range 9, []⟩,
    ⟨10, ⟨some 107, .extract (.t 106) 0, none⟩, false, .range 10, []⟩,
    ⟨11, ⟨some 108, .extract (.t 106) 1, none⟩, false, .range 10, []⟩,
    ⟨12, ⟨none, .store (some 2) (.t 6) (.t 107), none⟩, true, .range 12, []⟩,
    ⟨13, ⟨some 7, .mov (.t 108), none⟩, false, .range 13, []⟩] (.range 14) 109)
  (.ret)) (.skip)))))))))
  (.cln [6, 8, 12] (.seq (.regd [⟨0, ⟨some 109, .load (some 2) (.t 12), none⟩, false, [], []⟩,
    ⟨3, ⟨some 112, .load (some 2) (.t 8), none⟩, false, [], []⟩,
    ⟨1, ⟨some 110, .call (.c (.fn 154 [] [])) [.c (.int .i64 3)], none⟩, true, [], [0, 3]⟩,
    ⟨2, ⟨some 111, .eq false (.parts [(0, 1, .ei), (1, 1, .es)]) (.t 109) (.t 110), none⟩, false, [0, 1], []⟩,
    ⟨4, ⟨some 113, .call (.c (.fn 180 [] [])) [.t 111, .t 112], none⟩, true, [0, 1, 2, 3], []⟩,
    ⟨5, ⟨some 114, .extract (.t 113) 0, none⟩, false, .range 5, []⟩,
    ⟨6, ⟨some 115, .extract (.t 113) 1, none⟩, false, .range 5, []⟩,
    ⟨7, ⟨none, .store (some 2) (.t 6) (.t 114), none⟩, true, .range 7, []⟩,
    ⟨8, ⟨some 7, .mov (.t 115), none⟩, false, .range 8, []⟩] (.range 9) 116)
  (.ret)))))))))))) }
def p184l0 : PC := .loop (.cln [0, 1, 5, 6, 8] (.seq (.seq (.reg [⟨some 15, .mov (.t 8), none⟩,
    ⟨some 16, .mov (.t 1), none⟩,
    ⟨some 17, .lenl (.t 16), none⟩,
    ⟨some 18, .bini .lss (.t 15) (.t 17), none⟩])
  (.cond (.t 18) (.skip) (.exit 0)))
  (.cln [0, 1, 5, 6, 8] (.seq (.block 1 (.seq (.regd [⟨0, ⟨some 21, .mov (.t 1), none⟩, false, [], []⟩,
    ⟨1, ⟨some 22, .mov (.t 8), none⟩, false, [], []⟩,
    ⟨2, ⟨some 23, .iaddr 2 (.t 21) (.t 22), none⟩, false, [0, 1], []⟩,
    ⟨3, ⟨some 24, .load (some 2) (.t 23), none⟩, false, [0, 1, 2], []⟩,
    ⟨4, ⟨some 25, .mov (.t 0), none⟩, false, [], []⟩,
    ⟨5, ⟨some 26, .mov (.t 8), none⟩, false, [], []⟩,
    ⟨6, ⟨some 27, .iaddr 3 (.t 25) (.t 26), none⟩, false, [4, 5], []⟩,
    ⟨7, ⟨some 28, .faddr 1 (.t 27), none⟩, false, [4, 5, 6], []⟩,
    ⟨8, ⟨some 29, .load (some 2) (.t 28), none⟩, false, [4, 5, 6, 7], []⟩,
    ⟨9, ⟨some 30, .eq true (.parts [(0, 1, .ei), (1, 1, .es)]) (.t 24) (.t 29), none⟩, false, .range 9, []⟩] (.range 10) 31)
  (.cond (.t 30) (.seq (.reg [⟨some 31, .build [.int .i64 0, .str []] [], none⟩,
    ⟨none, .store (some 2) (.t 6) (.t 31), none⟩,
    ⟨some 7, .mov (.c (.int .i64 12)), none⟩])
  (.ret)) (.skip))))
  (.cln [0, 1, 5, 6, 8] (.reg [⟨some 19, .mov (.t 8), none⟩,
    ⟨some 20, .bini .add (.t 19) (.c (.int .i64 1)), none⟩,
    ⟨some 8, .mov (.t 20), none⟩]))))))
/-- frustum/frustumref20.given -/
def p184 : PFn := { nparams := 3, ntmps := 33, nobjs := 1, pure := true, keep := false, results := [⟨6, some (some 2)⟩, ⟨7, none⟩], body := (.cln (List.range 3) (.seq (.reg [⟨some 5, .boxi (.t 2), none⟩,
    ⟨some 6, .alloc 0 (.agg [.int .i64 0, .str []]), none⟩,
    ⟨some 7, .mov (.c (.int .i64 0)), none⟩])
  (.seq (.seq (.reg [⟨some 9, .mov (.t 1), none⟩,
    ⟨some 10, .lenl (.t 9), none⟩,
    ⟨some 11, .mov (.t 0), none⟩,
    ⟨some 12, .lenl (.t 11), none⟩,
    ⟨some 13, .bini .neq (.t 10) (.t 12), none⟩])
  (.cond (.t 13) (.seq (.reg [⟨some 14, .build [.int .i64 0, .str []] [], none⟩,
    ⟨none, .store (some 2) (.t 6) (.t 14), none⟩,
    ⟨some 7, .mov (.c (.int .i64 11)), none⟩])
  (.ret)) (.skip)))
  (.cln [0, 1, 5, 6] (.seq (.seq (.reg [⟨some 8, .mov (.c (.int .i64 0)), none⟩])
  (.block 0 (p184l0)))
  (.cln [5, 6] (.seq (.reg [⟨some 32, .load (some 2) (.t 5), none⟩,
    ⟨none, .store (some 2) (.t 6) (.t 32), none⟩,
    ⟨some 7, .mov (.c (.int .i64 0)), none⟩])
  (.ret)))))))) }
/-- frustum/frustumref20.resource -/
def p185 : PFn := { nparams := 4, ntmps := 167, nobjs := 4, pure := true, keep := false, results := [⟨8, some (some 2)⟩, ⟨9, none⟩], body := (.cln (List.range 4) (.seq (.reg [⟨some 4, .boxi (.t 0), none⟩,
    ⟨some 6, .boxi (.t 2), none⟩,
    ⟨some 8, .alloc 0 (.agg [.int .i64 0, .str []]), none⟩,
    ⟨some 9, .mov (.c (.int .i64 0)), none⟩])
  (.seq (.seq (.reg [⟨some 15, .mov (.t 3), none⟩,
    ⟨some 16, .lenl (.t 15), none⟩,
    ⟨some 17, .bini .eql (.t 16) (.c (.int .i64 0)), none⟩])
  (.cond (.t 17) (.seq (.reg [⟨some 18, .build [.int .i64 0, .str []] [], none⟩,
    ⟨none, .store (some 2) (.t 8) (.t 18), none⟩,
    ⟨some 9, .mov (.c (.int .i64 11)), none⟩])
  (.ret)) (.skip)))
  (.cln [1, 3, 4, 6, 8] (.seq (.reg [⟨some 19, .faddr 4 (.t 6), none⟩,
    ⟨some 20, .load none (.t 19), none⟩,
    ⟨some 21, .iaddr 5 (.t 20) (.c (.int .i64 0)), none⟩,
    ⟨some 22, .load (some 5) (.t 21), none⟩,
    ⟨some 10, .alloc 1 (.agg [.int .i64 0, .int .i64 0, .str [], .int .i64 0, .vs .nil []]), none⟩,
    ⟨none, .store (some 5) (.t 10) (.t 22), none⟩])
  (.seq (.reg [⟨some 23, .faddr 2 (.t 6), none⟩,
    ⟨some 24, .load none (.t 23), none⟩,
    ⟨some 25, .bins .eql (.t 24) (.c (.str [100, 100, 120])), none⟩,
    ⟨some 26, .mov (.t 25), none⟩,
    ⟨some 27, .faddr 2 (.t 6), some (26, false)⟩,
    ⟨some 28, .load none (.t 27), some (26, false)⟩,
    ⟨some 29, .bins .eql (.t 28) (.c (.str [100, 100, 121])), some (26, false)⟩,
    ⟨some 30, .pick (.t 26) (.c (.bool true)) (.t 29), none⟩,
    ⟨some 11, .mov (.t 30), none⟩])
  (.seq (.reg [⟨some 31, .faddr 0 (.t 10), none⟩,
    ⟨some 32, .load none (.t 31), none⟩,
    ⟨some 33, .bini .eql (.t 32) (.c (.int .i64 4)), none⟩,
    ⟨some 34, .mov (.t 33), none⟩,
    ⟨some 35, .faddr 4 (.t 10), some (34, true)⟩,
    ⟨some 36, .load none (.t 35), some (34, true)⟩,
    ⟨some 37, .lenl (.t 36), some (34, true)⟩,
    ⟨some 38, .bini .eql (.t 37) (.c (.int .i64 0)), some (34, true)⟩,
    ⟨some 39, .pick (.t 34) (.t 38) (.c (.bool false)), none⟩,
    ⟨some 12, .mov (.t 39), none⟩])
  (.seq (.seq (.reg [⟨some 40, .mov (.t 11), none⟩])
  (.cond (.t 40) (.reg [⟨some 41, .mov (.t 12), none⟩,
    ⟨some 42, .mov (.t 41), none⟩,
    ⟨some 43, .faddr 5 (.t 4), some (42, true)⟩,
    ⟨some 44, .load none (.t 43), some (42, true)⟩,
    ⟨some 45, .faddr 2 (.t 10), some (42, true)⟩,
    ⟨some 46, .load none (.t 45), some (42, true)⟩,
    ⟨some 47, .call (.c (.fn 101 [] [])) [.t 44, .t 46], some (42, true)⟩,
    ⟨some 48, .bini .geq (.t 47) (.c (.int .i64 0)), some (42, true)⟩,
    ⟨some 49, .pick (.t 42) (.t 48) (.c (.bool false)), none⟩,
    ⟨some 50, .mov (.t 49), none⟩,
    ⟨some 51, .mov (.t 1), some (50, true)⟩,
    ⟨some 52, .faddr 2 (.t 10), some (50, true)⟩,
    ⟨some 53, .load none (.t 52), some (50, true)⟩,
    ⟨some 54, .call (.c (.fn 179 [] [])) [.t 51, .t 53], some (50, true)⟩,
    ⟨some 55, .bini .lss (.t 54) (.c (.int .i64 0)), some (50, true)⟩,
    ⟨some 56, .pick (.t 50) (.t 55) (.c (.bool false)), none⟩,
    ⟨some 12, .mov (.t 56), none⟩]) (.seq (.reg [⟨some 57, .faddr 2 (.t 6), none⟩,
    ⟨some 58, .load none (.t 57), none⟩,
    ⟨some 59, .bins .eql (.t 58) (.c (.str [108, 111, 97, 100])), none⟩])
  (.cond (.t 59) (.reg [⟨some 60, .mov (.t 12), none⟩,
    ⟨some 61, .mov (.t 60), none⟩,
    ⟨some 62, .faddr 4 (.t 4), some (61, true)⟩,
    ⟨some 63, .load none (.t 62), some (61, true)⟩,
    ⟨some 64, .faddr 2 (.t 10), some (61, true)⟩,
    ⟨some 65, .load none (.t 64), some (61, true)⟩,
    ⟨some 66, .call (.c (.fn 143 [] [])) [.t 63, .t 65], some (61, true)⟩,
    ⟨some 67, .pick (.t 61) (.t 66) (.c (.bool false)), none⟩,
    ⟨some 12, .mov (.t 67), none⟩]) (.reg [⟨some 68, .mov (.t 12), none⟩,
    ⟨some 69, .mov (.t 68), none⟩,
    ⟨some 70, .faddr 3 (.t 4), some (69, true)⟩,
    ⟨some 71, .load none (.t 70), some (69, true)⟩,
    ⟨some 72, .faddr 2 (.t 10), some (69, true)⟩,
    ⟨some 73, .load none (.t 72), some (69, true)⟩,
    ⟨some 74, .call (.c (.fn 143 [] [])) [.t 71, .t 73], some (69, true)⟩,
    ⟨some 75, .pick (.t 69) (.t 74) (.c (.bool false)), none⟩,
    ⟨some 12, .mov (.t 75), none⟩])))))
  (.cln [3, 4, 6, 8, 10, 12] (.seq (.seq (.reg [⟨some 76, .mov (.t 12), none⟩,
    ⟨some 77, .notb (.t 76), none⟩])
  (.cond (.t 77) (.seq (.reg [⟨some 78, .build [.int .i64 0, .str []] [], none⟩,
    ⟨none, .store (some 2) (.t 8) (.t 78), none⟩,
    ⟨some 9, .mov (.c (.int .i64 13)), none⟩])
  (.ret)) (.skip)))
  (.cln [3, 4, 6, 8, 10] (.seq (.seq (.reg [⟨some 79, .mov (.t 3), none⟩,
    ⟨some 80, .lenl (.t 79), none⟩,
    ⟨some 81, .faddr 2 (.t 6), none⟩,
    ⟨some 82, .load none (.t 81), none⟩,
    ⟨some 83, .call (.c (.fn 112 [] [])) [.t 82], none⟩,
    ⟨some 84, .bini .neq (.t 80) (.t 83), none⟩])
  (.cond (.t 84) (.seq (.reg [⟨some 85, .build [.int .i64 0, .str []] [], none⟩,
    ⟨none, .store (some 2) (.t 8) (.t 85), none⟩,
    ⟨some 9, .mov (.c (.int .i64 11)), none⟩])
  (.ret)) (.skip)))
  (.cln [3, 4, 6, 8, 10] (.seq (.reg [⟨some 86, .call (.c (.fn 154 [] [])) [.c (.int .i64 3)], none⟩,
    ⟨some 13, .alloc 2 (.agg [.int .i64 0, .str []]), none⟩,
    ⟨none, .store (some 2) (.t 13) (.t 86), none⟩])
  (.seq (.seq (.reg [⟨some 87, .faddr 2 (.t 6), none⟩,
    ⟨some 88, .load none (.t 87), none⟩])
  (.block 0 (.seq (.reg [⟨some 90, .bins .eql (.t 88) (.c (.str [115, 97, 109, 112, 108, 101])), none⟩,
    ⟨some 89, .mov (.t 90), none⟩])
  (.cond (.t 89) (.seq (.regd [⟨0, ⟨some 91, .mov (.t 3), none⟩, false, [], []⟩,
    ⟨1, ⟨some 92, .iaddr 2 (.t 91) (.c (.int .i64 1)), none⟩, false, [0], []⟩,
    ⟨2, ⟨some 93, .load (some 2) (.t 92), none⟩, false, [0, 1], []⟩,
    ⟨3, ⟨some 94, .call (.c (.fn 154 [] [])) [.c (.int .i64 5)], none⟩, true, [], [1, 2]⟩,
    ⟨4, ⟨some 95, .eq false (.parts [(0, 1, .ei), (1, 1, .es)]) (.t 93) (.t 94), none⟩, false, [0, 1, 2, 3], []⟩,
    ⟨5, ⟨some 96, .mov (.t 95), none⟩, false, .range 5, []⟩,
    ⟨6, ⟨some 97, .mov (.t 3), some (96, true)⟩, false, .range 6, []⟩,
    ⟨7, ⟨some 98, .iaddr 2 (.t 97) (.c (.int .i64 2)), some (96, true)⟩, false, .range 7, []⟩,
    ⟨8, ⟨some 99, .load (some 2) (.t 98), some (96, true)⟩, false, .range 8, []⟩,
    ⟨9, ⟨some 100, .call (.c (.fn 154 [] [])) [.c (.int .i64 1)], some (96, true)⟩, true, .range 6, [7, 8]⟩,
    ⟨10, ⟨some 101, .eq false (.parts [(0, 1, .ei), (1, 1, .es)]) (.t 99) (.t 100), some (96, true)⟩, false, .range 10, []⟩,
    ⟨11, ⟨some 102, .pick (.t 96) (.t 101) (.c (.bool false)), none⟩, false, .range 11, []⟩,
    ⟨12, ⟨some 103, .call (.c (.fn 154 [] [])) [.c (.int .i64 7)], none⟩, true, (.range 6 ++ [9]), [7, 8]⟩,
    ⟨13, ⟨some 104, .call (.c (.fn 180 [] [])) [.t 102, .t 103], none⟩, true, .range 13, []⟩,
    ⟨14, ⟨some 105, .extract (.t 104) 0, none⟩, false, .range 14, []⟩,
    ⟨15, ⟨some 106, .extract (.t 104) 1, none⟩, false, .range 14, []⟩,
    ⟨16, ⟨none, .store (some 2) (.t 8) (.t 105), none⟩, true, .range 16, []⟩,
    ⟨17, ⟨some 9, .mov (.t 106), none⟩, false, .range 17, []⟩] (.range 18) 107)
  (.ret)) (.seq (.reg [⟨some 108, .bins .eql (.t 88) (.c (.str [102, 101, 116, 99, 104])), none⟩,
    ⟨some 107, .mov (.t 108), none⟩])
  (.cond (.t 107) (.seq (.regd [⟨0, ⟨some 109, .mov (.t 3), none⟩, false, [], []⟩,
    ⟨1, ⟨some 110, .iaddr 2 (.t 109) (.c (.int .i64 1)), none⟩, false, [0], []⟩,
    ⟨2, ⟨some 111, .load (some 2) (.t 110), none⟩, false, [0, 1], []⟩,
    ⟨3, ⟨some 112, .load (some 2) (.t 13), none⟩, false, [], []⟩,
    ⟨4, ⟨some 113, .eq false (.parts [(0, 1, .ei), (1, 1, .es)]) (.t 111) (.t 112), none⟩, false, [0, 1, 2, 3], []⟩,
    ⟨5, ⟨some 114, .mov (.t 113), none⟩, false, .range 5, []⟩,
    ⟨6, ⟨some 115, .mov (.t 3), some (114, true)⟩, false, .range 6, []⟩,
    ⟨7, ⟨some 116, .iaddr 2 (.t 115) (.c (.int .i64 2)), some (114, true)⟩, false, .range 7, []⟩,
    ⟨8, ⟨some 117, .load (some 2) (.t 116), some (114, true)⟩, false, .range 8, []⟩,
    ⟨9, ⟨some 118, .load (some 2) (.t 13), some (114, true)⟩, false, .range 6, []⟩,
    ⟨10, ⟨some 119, .eq false (.parts [(0, 1, .ei), (1, 1, .es)]) (.t 117) (.t 118), some (114, true)⟩, false, .range 10, []⟩,
    ⟨11, ⟨some 120, .pick (.t 114) (.t 119) (.c (.bool false)), none⟩, false, .range 11, []⟩,
    ⟨12, ⟨some 121, .mov (.t 120), none⟩, false, .range 12, []⟩,
    ⟨13, ⟨some 122, .mov (.t 3), some (121, true)⟩, false, .range 13, []⟩,
    ⟨14, ⟨some 123, .iaddr 2 (.t 122) (.c (.int .i64 3)), some (121, true)⟩, false, .range 14, []⟩,
    ⟨15, ⟨some 124, .load (some 2) (.t 123), some (121, true)⟩, false, .range 15, []⟩,
    ⟨16, ⟨some 125, .load (some 2) (.t 13), some (121, true)⟩, false, .range 13, []⟩,
    ⟨17, ⟨some 126, .eq false (.parts [(0, 1, .ei), (1, 1, .es)]) (.t 124) (.t 125), some (121, true)⟩, false, .range 17, []⟩,
    ⟨18, ⟨some 127, .pick (.t 121) (.t 126) (.c (.bool false)), none⟩, false, .range 18, []⟩,
    ⟨19, ⟨some 128, .call (.c (.fn 154 [] [])) [.c (.int .i64 7)], none⟩, true, .range 13, [14, 15, 16]⟩,
    ⟨20, ⟨some 129, .call (.c (.fn 180 [] [])) [.t 127, .t 128], none⟩, true, .range 20, []⟩,
    ⟨21, ⟨some 130, .extract (.t 129) 0, none⟩, false, .range 21, []⟩,
    ⟨22, ⟨some 131, .extract (.t 129) 1, none⟩, false, .range 21, []⟩,
    ⟨23, ⟨none, .store (some 2) (.t 8) (.t 130), none⟩, true, .range 23, []⟩,
    ⟨24, ⟨some 9, .mov (.t 131), none⟩, false, .range 24, []⟩] (.range 25) 132)
  (.ret)) (.seq (.reg [⟨some 133, .bins .eql (.t 88) (.c (.str [108, 111, 97, 100])), none⟩,
    ⟨some 132, .mov (.t 133), none⟩])
  (.cond (.t 132) (.seq (.regd [⟨0, ⟨some 134, .mov (.t 3), none⟩, false, [], []⟩,
    ⟨1, ⟨some 135, .iaddr 2 (.t 134) (.c (.int .i64 1)), none⟩, false, [0], []⟩,
    ⟨2, ⟨some 136, .load (some 2) (.t 135), none⟩, false, [0, 1], []⟩,
    ⟨3, ⟨some 137, .load (some 2) (.t 13), none⟩, false, [], []⟩,
    ⟨4, ⟨some 138, .eq false (.parts [(0, 1, .ei), (1, 1, .es)]) (.t 136) (.t 137), none⟩, false, [0, 1, 2, 3], []⟩,
    ⟨5, ⟨some 139, .load (some 2) (.t 13), none⟩, false, [], []⟩,
    ⟨6, ⟨some 140, .call (.c (.fn 180 [] [])) [.t 138, .t 139], none⟩, true, .range 6, []⟩,
    ⟨7, ⟨some 141, .extract (.t 140) 0, none⟩, false, .range 7, []⟩,
    ⟨8, ⟨some 142, .extract (.t 140) 1, none⟩, false, .range 7, []⟩,
    ⟨9, ⟨none, .store (some 2) (.t 8) (.t 141), none⟩, true, .range 9, []⟩,
    ⟨10, ⟨some 9, .mov (.t 142), none⟩, false, .range 10, []⟩] (.range 11) 143)
  (.ret)) (.skip)))))))))
  (.cln [4, 8, 10] (.seq (.regd [⟨0, ⟨some 143, .faddr 5 (.t 4), none⟩, false, [], []⟩,
    ⟨1, ⟨some 144, .load none (.t 143), none⟩, false, [0], []⟩,
    ⟨2, ⟨some 145, .faddr 5 (.t 4), none⟩, false, [], []⟩,
    ⟨3, ⟨some 146, .load none (.t 145), none⟩, false, [2], []⟩,
    ⟨4, ⟨some 147, .faddr 2 (.t 10), none⟩, false, [], []⟩,
    ⟨5, ⟨some 148, .load none (.t 147), none⟩, false, [4], []⟩,
    ⟨10, ⟨some 14, .alloc 3 (.agg [.int .i64 0, .str []]), none⟩, false, [], []⟩,
    ⟨6, ⟨some 149, .call (.c (.fn 101 [] [])) [.t 146, .t 148], none⟩, true, [2, 3, 4, 5], [0, 1, 10]⟩,
    ⟨7, ⟨some 150, .iaddr 3 (.t 144) (.t 149), none⟩, false, .range 7, []⟩,
    ⟨8, ⟨some 151, .faddr 1 (.t 150), none⟩, false, .range 8, []⟩,
    ⟨9, ⟨some 152, .load (some 2) (.t 151), none⟩, false, .range 9, []⟩,
    ⟨11, ⟨none, .store (some 2) (.t 14) (.t 152), none⟩, true, .range 11, []⟩] (.range 12) 153)
  (.seq (.seq (.regd [⟨0, ⟨some 153, .load (some 2) (.t 14), none⟩, false, [], []⟩,
    ⟨1, ⟨some 154, .call (.c (.fn 154 [] [])) [.c (.int .i64 1)], none⟩, true, [], [0]⟩,
    ⟨2, ⟨some 155, .eq true (.parts [(0, 1, .ei), (1, 1, .es)]) (.t 153) (.t 154), none⟩, false, [0, 1], []⟩,
    ⟨3, ⟨some 156, .mov (.t 155), none⟩, false, [0, 1, 2], []⟩,
    ⟨4, ⟨some 157, .load (some 2) (.t 14), some (156, true)⟩, false, [0, 1, 2, 3], []⟩,
    ⟨5, ⟨some 158, .call (.c (.fn 182 [] [])) [.t 157], some (156, true)⟩, true, .range 5, []⟩,
    ⟨6, ⟨some 159, .notb (.t 158), some (156, true)⟩, false, .range 6, []⟩,
    ⟨7, ⟨some 160, .pick (.t 156) (.t 159) (.c (.bool false)), none⟩, false, .range 7, []⟩] (.range 8) 161)
  (.cond (.t 160) (.seq (.reg [⟨some 161, .build [.int .i64 0, .str []] [], none⟩,
    ⟨none, .store (some 2) (.t 8) (.t 161), none⟩,
    ⟨some 9, .mov (.c (.int .i64 12)), none⟩])
  (.ret)) (.skip)))
  (.cln [4, 8, 14] (.seq (.seq (.reg [⟨some 162, .faddr 0 (.t 4), none⟩,
    ⟨some 163, .load none (.t 162), none⟩,
    ⟨some 164, .bini .neq (.t 163) (.c (.int .i64 3)), none⟩])
  (.cond (.t 164) (.seq (.reg [⟨some 165, .build [.int .i64 0, .str []] [], none⟩,
    ⟨none, .store (some 2) (.t 8) (.t 165), none⟩,
    ⟨some 9, .mov (.c (.int .i64 10)), none⟩])
  (.ret)) (.skip)))
  (.cln [8, 14] (.seq (.reg [⟨some 166, .load (some 2) (.t 14), none⟩,
    ⟨none, .store (some 2) (.t 8) (.t 166), none⟩,
    ⟨some 9, .mov (.c (.int .i64 0)), none⟩])
  (.ret))))))))))))))))))))))) }
/-- frustum/frustumref20.calculated -/
def p186 : PFn := { nparams := 2, ntmps := 108, nobjs := 3, pure := true, keep := false, results := [⟨4, some (some 2)⟩, ⟨5, none⟩], body := (.cln (List.range 2) (.seq (.reg [⟨some 4, .alloc 0 (.agg [.int .i64 0, .str []]), none⟩,
    ⟨some 5, .mov (.c (.int .i64 0)), none⟩])
  (.seq (.regd [⟨0, ⟨some 8, .mov (.t 1), none⟩, false, [], []⟩,
    ⟨1, ⟨some 9, .iaddr 2 (.t 8) (.c (.int .i64 0)), none⟩, false, [0], []⟩,
    ⟨2, ⟨some 10, .load (some 2) (.t 9), none⟩, false, [0, 1], []⟩,
    ⟨4, ⟨some 6, .alloc 1 (.agg [.int .i64 0, .str []]), none⟩, false, [], []⟩,
    ⟨5, ⟨some 7, .alloc 2 (.agg [.int .i64 0, .str []]), none⟩, false, [], []⟩,
    ⟨3, ⟨some 11, .call (.c (.fn 154 [] [])) [.c (.int .i64 1)], none⟩, true, [], [1, 2, 4, 5]⟩,
    ⟨6, ⟨none, .store (some 2) (.t 6) (.t 10), none⟩, true, .range 6, []⟩,
    ⟨7, ⟨none, .store (some 2) (.t 7) (.t 11), none⟩, true, .range 7, []⟩] (.range 8) 12)
  (.seq (.seq (.reg [⟨some 12, .mov (.t 0), none⟩])
  (.block 0 (.seq (.seq (.reg [⟨some 14, .bins .eql (.t 12) (.c (.str [109, 105, 110])), none⟩,
    ⟨some 13, .mov (.t 14), none⟩])
  (.cond (.t 13) (.skip) (.reg [⟨some 15, .bins .eql (.t 12) (.c (.str [109, 97, 120])), none⟩,
    ⟨some 13, .mov (.t 15), none⟩])))
  (.cln [1, 4, 6, 7, 12, 13] (.cond (.t 13) (.seq (.regd [⟨0, ⟨some 16, .load (some 2) (.t 6), none⟩, false, [], []⟩,
    ⟨9, ⟨some 25, .load (some 2) (.t 6), none⟩, false, [], []⟩,
    ⟨1, ⟨some 17, .call (.c (.fn 181 [] [])) [.t 16], none⟩, true, [0], [9]⟩,
    ⟨2, ⟨some 18, .mov (.t 17), none⟩, false, [0, 1], []⟩,
    ⟨3, ⟨some 19, .mov (.t 1), some (18, true)⟩, false, [0, 1, 2], []⟩,
    ⟨4, ⟨some 20, .iaddr 2 (.t 19) (.c (.int .i64 1)), some (18, true)⟩, false, [0, 1, 2, 3], []⟩,
    ⟨5, ⟨some 21, .load (some 2) (.t 20), some (18, true)⟩, false, .range 5, []⟩,
    ⟨6, ⟨some 22, .load (some 2) (.t 6), some (18, true)⟩, false, [0, 1, 2], []⟩,
    ⟨7, ⟨some 23, .eq false (.parts [(0, 1, .ei), (1, 1, .es)]) (.t 21) (.t 22), some (18, true)⟩, false, .range 7, []⟩,
    ⟨8, ⟨some 24, .pick (.t 18) (.t 23) (.c (.bool false)), none⟩, false, .range 8, []⟩,
    ⟨10, ⟨some 26, .call (.c (.fn 180 [] [])) [.t 24, .t 25], none⟩, true, .range 10, []⟩,
    ⟨11, ⟨some 27, .extract (.t 26) 0, none⟩, false, .range 11, []⟩,
    ⟨12, ⟨some 28, .extract (.t 26) 1, none⟩, false, .range 11, []⟩,
    ⟨13, ⟨none, .store (some 2) (.t 4) (.t 27), none⟩, true, .range 13, []⟩,
    ⟨14, ⟨some 5, .mov (.t 28), none⟩, false, .range 14, []⟩] (.range 15) 29)
  (.ret)) (.seq (.reg [⟨some 30, .bins .eql (.t 12) (.c (.str [99, 108, 97, 109, 112])), none⟩,
    ⟨some 29, .mov (.t 30), none⟩])
  (.cond (.t 29) (.seq (.regd [⟨0, ⟨some 31, .load (some 2) (.t 6), none⟩, false, [], []⟩,
    ⟨16, ⟨some 47, .load (some 2) (.t 6), none⟩, false, [], []⟩,
    ⟨1, ⟨some 32, .call (.c (.fn 181 [] [])) [.t 31], none⟩, true, [0], [16]⟩,
    ⟨2, ⟨some 33, .mov (.t 32), none⟩, false, [0, 1], []⟩,
    ⟨3, ⟨some 34, .mov (.t 1), some (33, true)⟩, false, [0, 1, 2], []⟩,
    ⟨4, ⟨some 35, .iaddr 2 (.t 34) (.c (.int .i64 1)), some (33, true)⟩, false, [0, 1, 2, 3], []⟩,
    ⟨5, ⟨some 36, .load (some 2) (.t 35), some (33, true)⟩, false, .range 5, []⟩,
    ⟨6, ⟨some 37, .load (some 2) (.t 6), some (33, true)⟩, false, [0, 1, 2], []⟩,
    ⟨7, ⟨some 38, .eq false (.parts [(0, 1, .ei), (1, 1, .es)]) (.t 36) (.t 37), some (33, true)⟩, false, .range 7, []⟩,
    ⟨8, ⟨some 39, .pick (.t 33) (.t 38) (.c (.bool false)), none⟩, false, .range 8, []⟩,
    ⟨9, ⟨some 40, .mov (.t 39), none⟩, false, .range 9, []⟩,
    ⟨10, ⟨some 41, .mov (.t 1), some (40, true)⟩, false, .range 10, []⟩,
    ⟨11, ⟨some 42, .iaddr 2 (.t 41) (.c (.int .i64 2)), some (40, true)⟩, false, .range 11, []⟩,
    ⟨12, ⟨some 43, .load (some 2) (.t 42), some (40, true)⟩, false, .range 12, []⟩,
    ⟨13, ⟨some 44, .load (some 2) (.t 6), some (40, true)⟩, false, .range 10, []⟩,
    ⟨14, ⟨some 45, .eq false (.parts [(0, 1, .ei), (1, 1, .es)]) (.t 43) (.t 44), some (40, true)⟩, false, .range 14, []⟩,
    ⟨15, ⟨some 46, .pick (.t 40) (.t 45) (.c (.bool false)), none⟩, false, .range 15, []⟩,
    ⟨17, ⟨some 48, .call (.c (.fn 180 [] [])) [.t 46, .t 47], none⟩, true, .range 17, []⟩,
    ⟨18, ⟨some 49, .extract (.t 48) 0, none⟩, false, .range 18, []⟩,
    ⟨19, ⟨some 50, .extract (.t 48) 1, none⟩, false, .range 18, []⟩,
    ⟨20, ⟨none, .store (some 2) (.t 4) (.t 49), none⟩, true, .range 20, []⟩,
    ⟨21, ⟨some 5, .mov (.t 50), none⟩, false, .range 21, []⟩] (.range 22) 51)
  (.ret)) (.seq (.reg [⟨some 52, .bins .eql (.t 12) (.c (.str [97, 98, 115])), none⟩,
    ⟨some 51, .mov (.t 52), none⟩])
  (.cond (.t 51) (.seq (.regd [⟨0, ⟨some 53, .load (some 2) (.t 6), none⟩, false, [], []⟩,
    ⟨2, ⟨some 55, .load (some 2) (.t 6), none⟩, false, [], []⟩,
    ⟨1, ⟨some 54, .call (.c (.fn 181 [] [])) [.t 53], none⟩, true, [0], [2]⟩,
    ⟨3, ⟨some 56, .call (.c (.fn 180 [] [])) [.t 54, .t 55], none⟩, true, [0, 1, 2], []⟩,
    ⟨4, ⟨some 57, .extract (.t 56) 0, none⟩, false, [0, 1, 2, 3], []⟩,
    ⟨5, ⟨some 58, .extract (.t 56) 1, none⟩, false, [0, 1, 2, 3], []⟩,
    ⟨6, ⟨none, .store (some 2) (.t 4) (.t 57), none⟩, true, .range 6, []⟩,
    ⟨7, ⟨some 5, .mov (.t 58), none⟩, false, .range 7, []⟩] (.range 8) 59)
  (.ret)) (.seq (.reg [⟨some 60, .bins .eql (.t 12) (.c (.str [100, 111, 116])), none⟩,
    ⟨some 59, .mov (.t 60), none⟩])
  (.cond (.t 59) (.seq (.regd [⟨0, ⟨some 61, .load (some 2) (.t 6), none⟩, false, [], []⟩,
    ⟨9, ⟨some 70, .load (some 2) (.t 7), none⟩, false, [], []⟩,
    ⟨1, ⟨some 62, .call (.c (.fn 182 [] [])) [.t 61], none⟩, true, [0], [9]⟩,
    ⟨2, ⟨some 63, .mov (.t 62), none⟩, false, [0, 1], []⟩,
    ⟨3, ⟨some 64, .mov (.t 1), some (63, true)⟩, false, [0, 1, 2], []⟩,
    ⟨4, ⟨some 65, .iaddr 2 (.t 64) (.c (.int .i64 1)), some (63, true)⟩, false, [0, 1, 2, 3], []⟩,
    ⟨5, ⟨some 66, .load (some 2) (.t 65), some (63, true)⟩, false, .range 5, []⟩,
    ⟨6, ⟨some 67, .load (some 2) (.t 6), some (63, true)⟩, false, [0, 1, 2], []⟩,
    ⟨7, ⟨some 68, .eq false (.parts [(0, 1, .ei), (1, 1, .es)]) (.t 66) (.t 67), some (63, true)⟩, false, .range 7, []⟩,
    ⟨8, ⟨some 69, .pick (.t 63) (.t 68) (.c (.bool false)), none⟩, false, .range 8, []⟩,
    ⟨10, ⟨some 71, .call (.c (.fn 180 [] [])) [.t 69, .t 70], none⟩, true, .range 10, []⟩,
    ⟨11, ⟨some 72, .extract (.t 71) 0, none⟩, false, .range 11, []⟩,
    ⟨12, ⟨some 73, .extract (.t 71) 1, none⟩, false, .range 11, []⟩,
    ⟨13, ⟨none, .store (some 2) (.t 4) (.t 72), none⟩, true, .range 13, []⟩,
    ⟨14, ⟨some 5, .mov (.t 73), none⟩, false, .range 14, []⟩] (.range 15) 74)
  (.ret)) (.seq (.reg [⟨some 75, .bins .eql (.t 12) (.c (.str [109, 105, 120])), none⟩,
    ⟨some 74, .mov (.t 75), none⟩])
  (.cond (.t 74) (.seq (.regd [⟨0, ⟨some 76, .load (some 2) (.t 6), none⟩, false, [], []⟩,
    ⟨1, ⟨some 77, .load (some 2) (.t 7), none⟩, false, [], []⟩,
    ⟨2, ⟨some 78, .eq false (.parts [(0, 1, .ei), (1, 1, .es)]) (.t 76) (.t 77), none⟩, false, [0, 1], []⟩,
    ⟨3, ⟨some 79, .mov (.t 78), none⟩, false, [0, 1, 2], []⟩,
    ⟨4, ⟨some 80, .load (some 2) (.t 6), some (79, false)⟩, false, [0, 1, 2, 3], []⟩,
    ⟨21, ⟨some 97, .load (some 2) (.t 6), none⟩, false, [], []⟩,
    ⟨5, ⟨some 81, .call (.c (.fn 182 [] [])) [.t 80], some (79, false)⟩, true, .range 5, [21]⟩,
    ⟨6, ⟨some 82, .pick (.t 79) (.c (.bool true)) (.t 81), none⟩, false, .range 6, []⟩,
    ⟨7, ⟨some 83, .mov (.t 82), none⟩, false, .range 7, []⟩,
    ⟨8, ⟨some 84, .mov (.t 1), some (83, true)⟩, false, .range 8, []⟩,
    ⟨9, ⟨some 85, .iaddr 2 (.t 84) (.c (.int .i64 1)), some (83, true)⟩, false, .range 9, []⟩,
    ⟨10, ⟨some 86, .load (some 2) (.t 85), some (83, true)⟩, false, .range 10, []⟩,
    ⟨11, ⟨some 87, .load (some 2) (.t 6), some (83, true)⟩, false, .range 8, []⟩,
    ⟨12, ⟨some 88, .eq false (.parts [(0, 1, .ei), (1, 1, .es)]) (.t 86) (.t 87), some (83, true)⟩, false, .range 12, []⟩,
    ⟨13, ⟨some 89, .pick (.t 83) (.t 88) (.c (.bool false)), none⟩, false, .range 13, []⟩,
    ⟨14, ⟨some 90, .mov (.t 89), none⟩, false, .range 14, []⟩,
    ⟨15, ⟨some 91, .mov (.t 1), some (90, true)⟩, false, .range 15, []⟩,
    ⟨16, ⟨some 92, .iaddr 2 (.t 91) (.c (.int .i64 2)), some (90, true)⟩, false, .range 16, []⟩,
    ⟨17, ⟨some 93, .load (some 2) (.t 92), some (90, true)⟩, false, .range 17, []⟩,
    ⟨18, ⟨some 94, .load (some 2) (.t 7), some (90, true)⟩, false, .range 15, []⟩,
    ⟨19, ⟨some 95, .eq false (.parts [(0, 1, .ei), (1, 1, .es)]) (.t 93) (.t 94), some (90, true)⟩, false, .range 19, []⟩,
    ⟨20, ⟨some 96, .pick (.t 90) (.t 95) (.c (.bool false)), none⟩, false, .range 20, []⟩,
    ⟨22, ⟨some 98, .call (.c (.fn 180 [] [])) [.t 96, .t 97], none⟩, true, .range 22, []⟩,
    ⟨23, ⟨some 99, .extract (.t 98) 0, none⟩, false, .range 23, []⟩,
    ⟨24, ⟨some 100, .extract (.t 98) 1, none⟩, false, .range 23, []⟩,
    ⟨25, ⟨none, .store (some 2) (.t 4) (.t 99), none⟩, true, .range 25, []⟩,
    ⟨26, ⟨some 5, .mov (.t 100), none⟩, false, .range 26, []⟩] (.range 27) 101)
  (.ret)) (.skip))))))))))))))
  (.cln [4, 6, 7] (.seq (.regd [⟨0, ⟨some 101, .load (some 2) (.t 6), none⟩, false, [], []⟩,
    ⟨1, ⟨some 102, .load (some 2) (.t 7), none⟩, false, [], []⟩,
    ⟨2, ⟨some 103, .eq false (.parts [(0, 1, .ei), (1, 1, .es)]) (.t 101) (.t 102), none⟩, false, [0, 1], []⟩,
    ⟨3, ⟨some 104, .load (some 2) (.t 7), none⟩, false, [], []⟩,
    ⟨4, ⟨some 105, .call (.c (.fn 180 [] [])) [.t 103, .t 104], none⟩, true, [0, 1, 2, 3], []⟩,
    ⟨5, ⟨some 106, .extract (.t 105) 0, none⟩, false, .range 5, []⟩,
    ⟨6, ⟨some 107, .extract (.t 105) 1, none⟩, false, .range 5, []⟩,
    ⟨7, ⟨none, .store (some 2) (.t 4) (.t 106), none⟩, true, .range 7, []⟩,
    ⟨8, ⟨some 5, .mov (.t 107), none⟩, false, .range 8, []⟩] (.range 9) 108)
  (.ret))))))) }
/-- frustum/frustumref20.call -/
def p155 : PFn := { nparams := 4, ntmps := 93, nobjs := 1, pure := true, keep := false, results := [⟨8, some (some 2)⟩, ⟨9, none⟩], body := (.cln (List.range 4) (.seq (.reg [⟨some 4, .boxi (.t 0), none⟩,
    ⟨some 6, .boxi (.t 2), none⟩,
    ⟨some 8, .alloc 0 (.agg [.int .i64 0, .str []]), none⟩,
    ⟨some 9, .mov (.c (.int .i64 0)), none⟩])
  (.seq (.seq (.reg [⟨some 14, .faddr 2 (.t 6), none⟩,
    ⟨some 15, .load none (.t 14), none⟩,
    ⟨some 16, .call (.c (.fn 111 [] [])) [.t 15], none⟩,
    ⟨some 10, .mov (.t 16), none⟩])
  (.seq (.reg [⟨some 17, .mov (.t 10), none⟩,
    ⟨some 18, .bini .gtr (.t 17) (.c (.int .i64 0)), none⟩])
  (.cond (.t 18) (.seq (.reg [⟨some 19, .load (some 9) (.t 4), none⟩,
    ⟨some 20, .mov (.t 10), none⟩,
    ⟨some 21, .mov (.t 3), none⟩,
    ⟨some 22, .call (.c (.fn 183 [] [])) [.t 19, .t 20, .t 21], none⟩,
    ⟨some 23, .extract (.t 22) 0, none⟩,
    ⟨some 24, .extract (.t 22) 1, none⟩,
    ⟨none, .store (some 2) (.t 8) (.t 23), none⟩,
    ⟨some 9, .mov (.t 24), none⟩])
  (.ret)) (.skip))))
  (.cln [1, 3, 4, 6, 8] (.seq (.seq (.reg [⟨some 25, .load (some 9) (.t 4), none⟩,
    ⟨some 26, .faddr 2 (.t 6), none⟩,
    ⟨some 27, .load none (.t 26), none⟩,
    ⟨some 28, .call (.c (.fn 100 [] [])) [.t 25, .t 27], none⟩,
    ⟨some 11, .mov (.t 28), none⟩])
  (.seq (.reg [⟨some 29, .mov (.t 11), none⟩,
    ⟨some 30, .bini .geq (.t 29) (.c (.int .i64 0)), none⟩])
  (.cond (.t 30) (.seq (.regd [⟨0, ⟨some 31, .faddr 1 (.t 4), none⟩, false, [], []⟩,
    ⟨1, ⟨some 32, .load none (.t 31), none⟩, false, [0], []⟩,
    ⟨2, ⟨some 33, .mov (.t 11), none⟩, false, [], []⟩,
    ⟨3, ⟨some 34, .iaddr 2 (.t 32) (.t 33), none⟩, false, [0, 1, 2], []⟩,
    ⟨4, ⟨some 35, .faddr 1 (.t 34), none⟩, false, [0, 1, 2, 3], []⟩,
    ⟨5, ⟨some 36, .load none (.t 35), none⟩, false, .range 5, []⟩,
    ⟨6, ⟨some 37, .mov (.t 3), none⟩, false, [], []⟩,
    ⟨7, ⟨some 38, .faddr 2 (.t 6), none⟩, false, [], []⟩,
    ⟨8, ⟨some 39, .load none (.t 38), none⟩, false, [7], []⟩,
    ⟨9, ⟨some 40, .build [.int .i64 0, .str []] [(0, 1, .c (.int .i64 8)), (1, 1, .t 39)], none⟩, false, [7, 8], []⟩,
    ⟨10, ⟨some 41, .call (.c (.fn 184 [] [])) [.t 36, .t 37, .t 40], none⟩, true, .range 10, []⟩,
    ⟨11, ⟨some 42, .extract (.t 41) 0, none⟩, false, .range 11, []⟩,
    ⟨12, ⟨some 43, .extract (.t 41) 1, none⟩, false, .range 11, []⟩,
    ⟨13, ⟨none, .store (some 2) (.t 8) (.t 42), none⟩, true, .range 13, []⟩,
    ⟨14, ⟨some 9, .mov (.t 43), none⟩, false, .range 14, []⟩] (.range 15) 44)
  (.ret)) (.skip))))
  (.cln [1, 3, 4, 6, 8] (.seq (.seq (.reg [⟨some 44, .load (some 9) (.t 4), none⟩,
    ⟨some 45, .load (some 5) (.t 6), none⟩,
    ⟨some 46, .call (.c (.fn 110 [] [])) [.t 44, .t 45], none⟩])
  (.cond (.t 46) (.seq (.reg [⟨some 47, .load (some 9) (.t 4), none⟩,
    ⟨some 48, .mov (.t 1), none⟩,
    ⟨some 49, .load (some 5) (.t 6), none⟩,
    ⟨some 50, .mov (.t 3), none⟩,
    ⟨some 51, .call (.c (.fn 185 [] [])) [.t 47, .t 48, .t 49, .t 50], none⟩,
    ⟨some 52, .extract (.t 51) 0, none⟩,
    ⟨some 53, .extract (.t 51) 1, none⟩,
    ⟨none, .store (some 2) (.t 8) (.t 52), none⟩,
    ⟨some 9, .mov (.t 53), none⟩])
  (.ret)) (.skip)))
  (.cln [3, 4, 6, 8] (.seq (.seq (.reg [⟨some 54, .faddr 2 (.t 6), none⟩,
    ⟨some 55, .load none (.t 54), none⟩,
    ⟨some 56, .call (.c (.fn 112 [] [])) [.t 55], none⟩,
    ⟨some 12, .mov (.t 56), none⟩])
  (.seq (.reg [⟨some 57, .mov (.t 12), none⟩,
    ⟨some 58, .bini .geq (.t 57) (.c (.int .i64 0)), none⟩])
  (.cond (.t 58) (.seq (.seq (.reg [⟨some 59, .mov (.t 3), none⟩,
    ⟨some 60, .lenl (.t 59), none⟩,
    ⟨some 61, .mov (.t 12), none⟩,
    ⟨some 62, .bini .neq (.t 60) (.t 61), none⟩])
  (.cond (.t 62) (.seq (.reg [⟨some 63, .build [.int .i64 0, .str []] [], none⟩,
    ⟨none, .store (some 2) (.t 8) (.t 63), none⟩,
    ⟨some 9, .mov (.c (.int .i64 11)), none⟩])
  (.ret)) (.skip)))
  (.cln [3, 6, 8] (.seq (.reg [⟨some 64, .faddr 2 (.t 6), none⟩,
    ⟨some 65, .load none (.t 64), none⟩,
    ⟨some 66, .mov (.t 3), none⟩,
    ⟨some 67, .call (.c (.fn 186 [] [])) [.t 65, .t 66], none⟩,
    ⟨some 68, .extract (.t 67) 0, none⟩,
    ⟨some 69, .extract (.t 67) 1, none⟩,
    ⟨none, .store (some 2) (.t 8) (.t 68), none⟩,
    ⟨some 9, .mov (.t 69), none⟩])
  (.ret)))) (.skip))))
  (.cln [3, 4, 6, 8] (.seq (.seq (.reg [⟨some 70, .load (some 9) (.t 4), none⟩,
    ⟨some 71, .faddr 2 (.t 6), none⟩,
    ⟨some 72, .load none (.t 71), none⟩,
    ⟨some 73, .call (.c (.fn 113 [] [])) [.t 70, .t 72], none⟩,
    ⟨some 13, .mov (.t 73), none⟩])
  (.seq (.reg [⟨some 74, .mov (.t 13), none⟩,
    ⟨some 75, .bini .geq (.t 74) (.c (.int .i64 0)), none⟩])
  (.cond (.t 75) (.seq (.regd [⟨0, ⟨some 76, .faddr 7 (.t 4), none⟩, false, [], []⟩,
    ⟨1, ⟨some 77, .load none (.t 76), none⟩, false, [0], []⟩,
    ⟨2, ⟨some 78, .mov (.t 13), none⟩, false, [], []⟩,
    ⟨3, ⟨some 79, .iaddr 10 (.t 77) (.t 78), none⟩, false, [0, 1, 2], []⟩,
    ⟨4, ⟨some 80, .faddr 1 (.t 79), none⟩, false, [0, 1, 2, 3], []⟩,
    ⟨5, ⟨some 81, .load none (.t 80), none⟩, false, .range 5, []⟩,
    ⟨6, ⟨some 82, .mov (.t 3), none⟩, false, [], []⟩,
    ⟨7, ⟨some 83, .faddr 7 (.t 4), none⟩, false, [], []⟩,
    ⟨8, ⟨some 84, .load none (.t 83), none⟩, false, [7], []⟩,
    ⟨9, ⟨some 85, .mov (.t 13), none⟩, false, [], []⟩,
    ⟨10, ⟨some 86, .iaddr 10 (.t 84) (.t 85), none⟩, false, [7, 8, 9], []⟩,
    ⟨11, ⟨some 87, .faddr 2 (.t 86), none⟩, false, [7, 8, 9, 10], []⟩,
    ⟨12, ⟨some 88, .load (some 2) (.t 87), none⟩, false, [7, 8, 9, 10, 11], []⟩,
    ⟨13, ⟨some 89, .call (.c (.fn 184 [] [])) [.t 81, .t 82, .t 88], none⟩, true, .range 13, []⟩,
    ⟨14, ⟨some 90, .extract (.t 89) 0, none⟩, false, .range 14, []⟩,
    ⟨15, ⟨some 91, .extract (.t 89) 1, none⟩, false, .range 14, []⟩,
    ⟨16, ⟨none, .store (some 2) (.t 8) (.t 90), none⟩, true, .range 16, []⟩,
    ⟨17, ⟨some 9, .mov (.t 91), none⟩, false, .range 17, []⟩] (.range 18) 92)
  (.ret)) (.skip))))
  (.cln [8] (.seq (.reg [⟨some 92, .build [.int .i64 0, .str []] [], none⟩,
    ⟨none, .store (some 2) (.t 8) (.t 92), none⟩,
    ⟨some 9, .mov (.c (.int .i64 13)), none⟩])
  (.ret)))))))))))))) }
def p108l0 : PC := .loop (.cln [1, 3, 5, 6, 9, 10] (.seq (.seq (.reg [⟨some 32, .mov (.t 10), none⟩,
    ⟨some 33, .faddr 4 (.t 5), none⟩,
    ⟨some 34, .load none (.t 33), none⟩,
    ⟨some 35, .lenl (.t 34), none⟩,
    ⟨some 36, .bini .lss (.t 32) (.t 35), none⟩])
  (.cond (.t 36) (.skip) (.exit 0)))
  (.cln [1, 3, 5, 6, 9, 10] (.seq (.block 1 (.seq (.seq (.reg [⟨some 39, .mov (.t 10), none⟩,
    ⟨some 40, .bini .eql (.t 39) (.c (.int .i64 0)), none⟩,
    ⟨some 41, .mov (.t 40), none⟩,
    ⟨some 42, .load (some 9) (.t 3), some (41, true)⟩,
    ⟨some 43, .load (some 5) (.t 5), some (41, true)⟩,
    ⟨some 44, .call (.c (.fn 110 [] [])) [.t 42, .t 43], some (41, true)⟩,
    ⟨some 45, .pick (.t 41) (.t 44) (.c (.bool false)), none⟩])
  (.cond (.t 45) (.seq (.reg [⟨some 46, .mov (.t 9), none⟩,
    ⟨some 47, .build [.int .i64 0, .str []] [], none⟩,
    ⟨some 48, .bsl [.agg [.int .i64 0, .str []]] [(0, .t 47)], none⟩,
    ⟨some 49, .append 2 true 2 24 (.t 46) (.t 48), none⟩,
    ⟨some 9, .mov (.t 49), none⟩])
  (.exit 1)) (.skip)))
  (.cln [1, 3, 5, 6, 9, 10] (.seq (.regd [⟨0, ⟨some 51, .load (some 9) (.t 3), none⟩, false, [], []⟩,
    ⟨1, ⟨some 52, .mov (.t 1), none⟩, false, [], []⟩,
    ⟨2, ⟨some 53, .faddr 4 (.t 5), none⟩, false, [], []⟩,
    ⟨3, ⟨some 54, .load none (.t 53), none⟩, false, [2], []⟩,
    ⟨4, ⟨some 55, .mov (.t 10), none⟩, false, [], []⟩,
    ⟨5, ⟨some 56, .iaddr 5 (.t 54) (.t 55), none⟩, false, [2, 3, 4], []⟩,
    ⟨6, ⟨some 57, .load (some 5) (.t 56), none⟩, false, [2, 3, 4, 5], []⟩,
    ⟨11, ⟨some 11, .alloc 3 (.agg [.int .i64 0, .str []]), none⟩, false, [], []⟩,
    ⟨7, ⟨some 58, .call (.c (.fn 108 [] [])) [.t 51, .t 52, .t 57], none⟩, true, .range 7, [11]⟩,
    ⟨8, ⟨some 50, .mov (.t 58), none⟩, false, .range 8, []⟩,
    ⟨9, ⟨some 59, .extract (.t 50) 0, none⟩, false, .range 9, []⟩,
    ⟨10, ⟨some 60, .extract (.t 50) 1, none⟩, false, .range 9, []⟩,
    ⟨12, ⟨none, .store (some 2) (.t 11) (.t 59), none⟩, true, (.range 10 ++ [11]), []⟩,
    ⟨13, ⟨some 12, .mov (.t 60), none⟩, false, .range 13, []⟩] ((.range 10 ++ [11, 12, 10, 13])) 61)
  (.seq (.seq (.reg [⟨some 61, .mov (.t 12), none⟩,
    ⟨some 62, .bini .neq (.t 61) (.c (.int .i64 0)), none⟩])
  (.cond (.t 62) (.seq (.reg [⟨some 63, .build [.int .i64 0, .str []] [], none⟩,
    ⟨some 64, .mov (.t 12), none⟩,
    ⟨none, .store (some 2) (.t 6) (.t 63), none⟩,
    ⟨some 7, .mov (.t 64), none⟩])
  (.ret)) (.skip)))
  (.cln [1, 3, 5, 6, 9, 10, 11] (.reg [⟨some 65, .mov (.t 9), none⟩,
    ⟨some 66, .load (some 2) (.t 11), none⟩,
    ⟨some 67, .bsl [.agg [.int .i64 0, .str []]] [(0, .t 66)], none⟩,
    ⟨some 68, .append 4 true 2 24 (.t 65) (.t 67), none⟩,
    ⟨some 9, .mov (.t 68), none⟩])))))))
  (.cln [1, 3, 5, 6, 9, 10] (.reg [⟨some 37, .mov (.t 10), none⟩,
    ⟨some 38, .bini .add (.t 37) (.c (.int .i64 1)), none⟩,
    ⟨some 10, .mov (.t 38), none⟩]))))))
/-- frustum/frustumref20.ExprType -/
def p108 : PFn := { nparams := 3, ntmps := 159, nobjs := 6, pure := true, keep := false, results := [⟨6, some (some 2)⟩, ⟨7, none⟩], body := (.cln (List.range 3) (.seq (.reg [⟨some 3, .boxi (.t 0), none⟩,
    ⟨some 5, .boxi (.t 2), none⟩,
    ⟨some 6, .alloc 0 (.agg [.int .i64 0, .str []]), none⟩,
    ⟨some 7, .mov (.c (.int .i64 0)), none⟩])
  (.seq (.reg [⟨some 15, .faddr 0 (.t 5), none⟩,
    ⟨some 16, .load none (.t 15), none⟩,
    ⟨some 17, .call (.c (.fn 147 [] [])) [.t 16], none⟩,
    ⟨some 8, .mov (.t 17), none⟩])
  (.seq (.seq (.reg [⟨some 18, .mov (.t 8), none⟩,
    ⟨some 19, .bini .eql (.t 18) (.c (.int .i64 (-2))), none⟩,
    ⟨some 20, .mov (.t 19), none⟩,
    ⟨some 21, .mov (.t 8), some (20, false)⟩,
    ⟨some 22, .bini .geq (.t 21) (.c (.int .i64 0)), some (20, false)⟩,
    ⟨some 23, .mov (.t 22), some (20, false)⟩,
    ⟨some 24, .mov (.t 8), some (23, true)⟩,
    ⟨some 25, .faddr 4 (.t 5), some (23, true)⟩,
    ⟨some 26, .load none (.t 25), some (23, true)⟩,
    ⟨some 27, .lenl (.t 26), some (23, true)⟩,
    ⟨some 28, .bini .neq (.t 24) (.t 27), some (23, true)⟩,
    ⟨some 29, .pick (.t 23) (.t 28) (.c (.bool false)), some (20, false)⟩,
    ⟨some 30, .pick (.t 20) (.c (.bool true)) (.t 29), none⟩])
  (.cond (.t 30) (.seq (.reg [⟨some 31, .build [.int .i64 0, .str []] [], none⟩,
    ⟨none, .store (some 2) (.t 6) (.t 31), none⟩,
    ⟨some 7, .mov (.c (.int .i64 10)), none⟩])
  (.ret)) (.skip)))
  (.cln [1, 3, 5, 6] (.seq (.reg [⟨some 9, .vec 1 true 2, none⟩])
  (.seq (.seq (.reg [⟨some 10, .mov (.c (.int .i64 0)), none⟩])
  (.block 0 (p108l0)))
  (.cln [1, 3, 5, 6, 9] (.seq (.seq (.reg [⟨some 69, .faddr 0 (.t 5), none⟩,
    ⟨some 70, .load none (.t 69), none⟩])
  (.block 2 (.seq (.reg [⟨some 72, .bini .eql (.t 70) (.c (.int .i64 1)), none⟩,
    ⟨some 71, .mov (.t 72), none⟩])
  (.cond (.t 71) (.seq (.reg [⟨some 73, .load (some 5) (.t 5), none⟩,
    ⟨some 74, .call (.c (.fn 148 [] [])) [.t 73, .c (.int .i64 1), .c (.int .i64 536870911)], none⟩,
    ⟨some 75, .extract (.t 74) 0, none⟩,
    ⟨some 76, .extract (.t 74) 1, none⟩,
    ⟨none, .store (some 2) (.t 6) (.t 75), none⟩,
    ⟨some 7, .mov (.t 76), none⟩])
  (.ret)) (.seq (.reg [⟨some 78, .bini .eql (.t 70) (.c (.int .i64 2)), none⟩,
    ⟨some 77, .mov (.t 78), none⟩])
  (.cond (.t 77) (.seq (.reg [⟨some 79, .load (some 5) (.t 5), none⟩,
    ⟨some 80, .call (.c (.fn 148 [] [])) [.t 79, .c (.int .i64 3), .c (.int .i64 2147483647)], none⟩,
    ⟨some 81, .extract (.t 80) 0, none⟩,
    ⟨some 82, .extract (.t 80) 1, none⟩,
    ⟨none, .store (some 2) (.t 6) (.t 81), none⟩,
    ⟨some 7, .mov (.t 82), none⟩])
  (.ret)) (.seq (.reg [⟨some 84, .bini .eql (.t 70) (.c (.int .i64 3)), none⟩,
    ⟨some 83, .mov (.t 84), none⟩])
  (.cond (.t 83) (.seq (.reg [⟨some 85, .load (some 5) (.t 5), none⟩,
    ⟨some 86, .call (.c (.fn 148 [] [])) [.t 85, .c (.int .i64 4), .c (.int .i64 1)], none⟩,
    ⟨some 87, .extract (.t 86) 0, none⟩,
    ⟨some 88, .extract (.t 86) 1, none⟩,
    ⟨none, .store (some 2) (.t 6) (.t 87), none⟩,
    ⟨some 7, .mov (.t 88), none⟩])
  (.ret)) (.seq (.reg [⟨some 90, .bini .eql (.t 70) (.c (.int .i64 4)), none⟩,
    ⟨some 89, .mov (.t 90), none⟩])
  (.cond (.t 89) (.seq (.reg [⟨some 92, .load (some 9) (.t 3), none⟩,
    ⟨some 93, .mov (.t 1), none⟩,
    ⟨some 94, .faddr 2 (.t 5), none⟩,
    ⟨some 95, .load none (.t 94), none⟩,
    ⟨some 96, .call (.c (.fn 149 [] [])) [.t 92, .t 93, .t 95], none⟩,
    ⟨some 91, .mov (.t 96), none⟩,
    ⟨some 97, .extract (.t 91) 0, none⟩,
    ⟨some 98, .extract (.t 91) 1, none⟩,
    ⟨some 13, .alloc 5 (.agg [.int .i64 0, .str []]), none⟩,
    ⟨none, .store (some 2) (.t 13) (.t 97), none⟩,
    ⟨some 14, .mov (.t 98), none⟩])
  (.seq (.seq (.reg [⟨some 99, .mov (.t 14), none⟩,
    ⟨some 100, .notb (.t 99), none⟩])
  (.cond (.t 100) (.seq (.reg [⟨some 101, .build [.int .i64 0, .str []] [], none⟩,
    ⟨none, .store (some 2) (.t 6) (.t 101), none⟩,
    ⟨some 7, .mov (.c (.int .i64 13)), none⟩])
  (.ret)) (.skip)))
  (.cln [6, 13] (.seq (.reg [⟨some 102, .load (some 2) (.t 13), none⟩,
    ⟨none, .store (some 2) (.t 6) (.t 102), none⟩,
    ⟨some 7, .mov (.c (.int .i64 0)), none⟩])
  (.ret))))) (.seq (.reg [⟨some 104, .bini .eql (.t 70) (.c (.int .i64 5)), none⟩,
    ⟨some 103, .mov (.t 104), none⟩])
  (.cond (.t 103) (.seq (.regd [⟨0, ⟨some 105, .faddr 1 (.t 5), none⟩, false, [], []⟩,
    ⟨1, ⟨some 106, .load none (.t 105), none⟩, false, [0], []⟩,
    ⟨2, ⟨some 107, .mov (.t 9), none⟩, false, [], []⟩,
    ⟨3, ⟨some 108, .iaddr 2 (.t 107) (.c (.int .i64 0)), none⟩, false, [2], []⟩,
    ⟨4, ⟨some 109, .load (some 2) (.t 108), none⟩, false, [2, 3], []⟩,
    ⟨5, ⟨some 110, .call (.c (.fn 150 [] [])) [.t 106, .t 109], none⟩, true, .range 5, []⟩,
    ⟨6, ⟨some 111, .extract (.t 110) 0, none⟩, false, .range 6, []⟩,
    ⟨7, ⟨some 112, .extract (.t 110) 1, none⟩, false, .range 6, []⟩,
    ⟨8, ⟨none, .store (some 2) (.t 6) (.t 111), none⟩, true, .range 8, []⟩,
    ⟨9, ⟨some 7, .mov (.t 112), none⟩, false, .range 9, []⟩] (.range 10) 113)
  (.ret)) (.seq (.reg [⟨some 114, .bini .eql (.t 70) (.c (.int .i64 6)), none⟩,
    ⟨some 113, .mov (.t 114), none⟩])
  (.cond (.t 113) (.seq (.regd [⟨0, ⟨some 115, .faddr 1 (.t 5), none⟩, false, [], []⟩,
    ⟨1, ⟨some 116, .load none (.t 115), none⟩, false, [0], []⟩,
    ⟨2, ⟨some 117, .mov (.t 9), none⟩, false, [], []⟩,
    ⟨3, ⟨some 118, .iaddr 2 (.t 117) (.c (.int .i64 0)), none⟩, false, [2], []⟩,
    ⟨4, ⟨some 119, .load (some 2) (.t 118), none⟩, false, [2, 3], []⟩,
    ⟨5, ⟨some 120, .mov (.t 9), none⟩, false, [], []⟩,
    ⟨6, ⟨some 121, .iaddr 2 (.t 120) (.c (.int .i64 1)), none⟩, false, [5], []⟩,
    ⟨7, ⟨some 122, .load (some 2) (.t 121), none⟩, false, [5, 6], []⟩,
    ⟨8, ⟨some 123, .call (.c (.fn 151 [] [])) [.t 116, .t 119, .t 122], none⟩, true, .range 8, []⟩,
    ⟨9, ⟨some 124, .extract (.t 123) 0, none⟩, false, .range 9, []⟩,
    ⟨10, ⟨some 125, .extract (.t 123) 1, none⟩, false, .range 9, []⟩,
    ⟨11, ⟨none, .store (some 2) (.t 6) (.t 124), none⟩, true, .range 11, []⟩,
    ⟨12, ⟨some 7, .mov (.t 125), none⟩, false, .range 12, []⟩] (.range 13) 126)
  (.ret)) (.seq (.reg [⟨some 127, .bini .eql (.t 70) (.c (.int .i64 8)), none⟩,
    ⟨some 126, .mov (.t 127), none⟩])
  (.cond (.t 126) (.seq (.regd [⟨0, ⟨some 128, .load (some 9) (.t 3), none⟩, false, [], []⟩,
    ⟨1, ⟨some 129, .mov (.t 9), none⟩, false, [], []⟩,
    ⟨2, ⟨some 130, .iaddr 2 (.t 129) (.c (.int .i64 0)), none⟩, false, [1], []⟩,
    ⟨3, ⟨some 131, .load (some 2) (.t 130), none⟩, false, [1, 2], []⟩,
    ⟨4, ⟨some 132, .faddr 2 (.t 5), none⟩, false, [], []⟩,
    ⟨5, ⟨some 133, .load none (.t 132), none⟩, false, [4], []⟩,
    ⟨6, ⟨some 134, .call (.c (.fn 152 [] [])) [.t 128, .t 131, .t 133], none⟩, true, .range 6, []⟩,
    ⟨7, ⟨some 135, .extract (.t 134) 0, none⟩, false, .range 7, []⟩,
    ⟨8, ⟨some 136, .extract (.t 134) 1, none⟩, false, .range 7, []⟩,
    ⟨9, ⟨none, .store (some 2) (.t 6) (.t 135), none⟩, true, .range 9, []⟩,
    ⟨10, ⟨some 7, .mov (.t 136), none⟩, false, .range 10, []⟩] (.range 11) 137)
  (.ret)) (.seq (.reg [⟨some 138, .bini .eql (.t 70) (.c (.int .i64 9)), none⟩,
    ⟨some 137, .mov (.t 138), none⟩])
  (.cond (.t 137) (.seq (.seq (.regd [⟨0, ⟨some 139, .mov (.t 9), none⟩, false, [], []⟩,
    ⟨1, ⟨some 140, .iaddr 2 (.t 139) (.c (.int .i64 0)), none⟩, false, [0], []⟩,
    ⟨2, ⟨some 141, .load (some 2) (.t 140), none⟩, false, [0, 1], []⟩,
    ⟨3, ⟨some 142, .call (.c (.fn 153 [] [])) [.t 141], none⟩, true, [0, 1, 2], []⟩,
    ⟨4, ⟨some 143, .mov (.t 142), none⟩, false, [0, 1, 2, 3], []⟩,
    ⟨5, ⟨some 144, .mov (.t 9), some (143, true)⟩, false, .range 5, []⟩,
    ⟨6, ⟨some 145, .iaddr 2 (.t 144) (.c (.int .i64 1)), some (143, true)⟩, false, .range 6, []⟩,
    ⟨7, ⟨some 146, .load (some 2) (.t 145), some (143, true)⟩, false, .range 7, []⟩,
    ⟨8, ⟨some 147, .call (.c (.fn 154 [] [])) [.c (.int .i64 3)], some (143, true)⟩, true, .range 5, [6, 7]⟩,
    ⟨9, ⟨some 148, .eq false (.parts [(0, 1, .ei), (1, 1, .es)]) (.t 146) (.t 147), some (143, true)⟩, false, .range 9, []⟩,
    ⟨10, ⟨some 149, .pick (.t 143) (.t 148) (.c (.bool false)), none⟩, false, .range 10, []⟩] (.range 11) 150)
  (.cond (.t 149) (.seq (.reg [⟨some 150, .call (.c (.fn 154 [] [])) [.c (.int .i64 1)], none⟩,
    ⟨none, .store (some 2) (.t 6) (.t 150), none⟩,
    ⟨some 7, .mov (.c (.int .i64 0)), none⟩])
  (.ret)) (.skip)))
  (.cln [6] (.seq (.reg [⟨some 151, .build [.int .i64 0, .str []] [], none⟩,
    ⟨none, .store (some 2) (.t 6) (.t 151), none⟩,
    ⟨some 7, .mov (.c (.int .i64 12)), none⟩])
  (.ret)))) (.skip)))))))))))))))))))
  (.cln [1, 3, 5, 6, 9] (.seq (.reg [⟨some 152, .load (some 9) (.t 3), none⟩,
    ⟨some 153, .mov (.t 1), none⟩,
    ⟨some 154, .load (some 5) (.t 5), none⟩,
    ⟨some 155, .mov (.t 9), none⟩,
    ⟨some 156, .call (.c (.fn 155 [] [])) [.t 152, .t 153, .t 154, .t 155], none⟩,
    ⟨some 157, .extract (.t 156) 0, none⟩,
    ⟨some 158, .extract (.t 156) 1, none⟩,
    ⟨none, .store (some 2) (.t 6) (.t 157), none⟩,
    ⟨some 7, .mov (.t 158), none⟩])
  (.ret)))))))))))) }
/-- frustum/frustumref20.let -/
def p176 : PFn := { nparams := 3, ntmps := 53, nobjs := 1, pure := true, keep := false, results := [⟨6, none⟩], body := (.cln (List.range 3) (.seq (.reg [⟨some 3, .boxi (.t 0), none⟩,
    ⟨some 5, .boxi (.t 2), none⟩,
    ⟨some 6, .mov (.c (.int .i64 0)), none⟩])
  (.seq (.seq (.reg [⟨some 9, .faddr 1 (.t 5), none⟩,
    ⟨some 10, .load none (.t 9), none⟩,
    ⟨some 11, .call (.c (.fn 99 [] [])) [.t 10], none⟩,
    ⟨some 12, .notb (.t 11), none⟩,
    ⟨some 13, .mov (.t 12), none⟩,
    ⟨some 14, .mov (.t 1), some (13, false)⟩,
    ⟨some 15, .faddr 1 (.t 5), some (13, false)⟩,
    ⟨some 16, .load none (.t 15), some (13, false)⟩,
    ⟨some 17, .call (.c (.fn 101 [] [])) [.t 14, .t 16], some (13, false)⟩,
    ⟨some 18, .bini .geq (.t 17) (.c (.int .i64 0)), some (13, false)⟩,
    ⟨some 19, .pick (.t 13) (.c (.bool true)) (.t 18), none⟩,
    ⟨some 20, .mov (.t 19), none⟩,
    ⟨some 21, .faddr 0 (.t 3), some (20, false)⟩,
    ⟨some 22, .load (some 9) (.t 21), some (20, false)⟩,
    ⟨some 23, .faddr 1 (.t 5), some (20, false)⟩,
    ⟨some 24, .load none (.t 23), some (20, false)⟩,
    ⟨some 25, .call (.c (.fn 106 [] [])) [.t 22, .t 24], some (20, false)⟩,
    ⟨some 26, .pick (.t 20) (.c (.bool true)) (.t 25), none⟩])
  (.cond (.t 26) (.seq (.reg [⟨some 6, .mov (.c (.int .i64 13)), none⟩])
  (.ret)) (.skip)))
  (.cln [1, 3, 5] (.seq (.seq (.reg [⟨some 27, .faddr 0 (.t 3), none⟩,
    ⟨some 28, .load (some 9) (.t 27), none⟩,
    ⟨some 29, .faddr 2 (.t 5), none⟩,
    ⟨some 30, .load (some 2) (.t 29), none⟩,
    ⟨some 31, .faddr 0 (.t 3), none⟩,
    ⟨some 32, .faddr 1 (.t 31), none⟩,
    ⟨some 33, .load none (.t 32), none⟩,
    ⟨some 34, .lenl (.t 33), none⟩,
    ⟨some 35, .call (.c (.fn 102 [] [])) [.t 28, .t 30, .t 34], none⟩,
    ⟨some 36, .notb (.t 35), none⟩])
  (.cond (.t 36) (.seq (.reg [⟨some 6, .mov (.c (.int .i64 12)), none⟩])
  (.ret)) (.skip)))
  (.cln [1, 3, 5] (.seq (.reg [⟨some 38, .faddr 0 (.t 3), none⟩,
    ⟨some 39, .load (some 9) (.t 38), none⟩,
    ⟨some 40, .mov (.t 1), none⟩,
    ⟨some 41, .faddr 9 (.t 5), none⟩,
    ⟨some 42, .load (some 5) (.t 41), none⟩,
    ⟨some 43, .call (.c (.fn 108 [] [])) [.t 39, .t 40, .t 42], none⟩,
    ⟨some 37, .mov (.t 43), none⟩,
    ⟨some 44, .extract (.t 37) 0, none⟩,
    ⟨some 45, .extract (.t 37) 1, none⟩,
    ⟨some 7, .alloc 0 (.agg [.int .i64 0, .str []]), none⟩,
    ⟨none, .store (some 2) (.t 7) (.t 44), none⟩,
    ⟨some 8, .mov (.t 45), none⟩])
  (.seq (.seq (.reg [⟨some 46, .mov (.t 8), none⟩,
    ⟨some 47, .bini .neq (.t 46) (.c (.int .i64 0)), none⟩])
  (.cond (.t 47) (.seq (.reg [⟨some 48, .mov (.t 8), none⟩,
    ⟨some 6, .mov (.t 48), none⟩])
  (.ret)) (.skip)))
  (.cln [5, 7] (.seq (.seq (.reg [⟨some 49, .load (some 2) (.t 7), none⟩,
    ⟨some 50, .faddr 2 (.t 5), none⟩,
    ⟨some 51, .load (some 2) (.t 50), none⟩,
    ⟨some 52, .eq true (.parts [(0, 1, .ei), (1, 1, .es)]) (.t 49) (.t 51), none⟩])
  (.cond (.t 52) (.seq (.reg [⟨some 6, .mov (.c (.int .i64 12)), none⟩])
  (.ret)) (.skip)))
  (.cln [] (.seq (.reg [⟨some 6, .mov (.c (.int .i64 0)), none⟩])
  (.ret))))))))))))) }
def p194l0 : PC := .loop (.cln [1] (.seq (.seq (.reg [⟨some 4, .faddr 0 (.t 1), none⟩,
    ⟨some 5, .load none (.t 4), none⟩,
    ⟨some 6, .bini .eql (.t 5) (.c (.int .i64 8)), none⟩,
    ⟨some 7, .mov (.t 6), none⟩,
    ⟨some 8, .faddr 0 (.t 1), some (7, false)⟩,
    ⟨some 9, .load none (.t 8), some (7, false)⟩,
    ⟨some 10, .bini .eql (.t 9) (.c (.int .i64 9)), some (7, false)⟩,
    ⟨some 11, .pick (.t 7) (.c (.bool true)) (.t 10), none⟩])
  (.cond (.t 11) (.skip) (.exit 0)))
  (.cln [1] (.block 1 (.seq (.seq (.reg [⟨some 12, .faddr 4 (.t 1), none⟩,
    ⟨some 13, .load none (.t 12), none⟩,
    ⟨some 14, .lenl (.t 13), none⟩,
    ⟨some 15, .bini .eql (.t 14) (.c (.int .i64 0)), none⟩])
  (.cond (.t 15) (.seq (.reg [⟨some 2, .mov (.c (.str [])), none⟩,
    ⟨some 3, .mov (.c (.bool false)), none⟩])
  (.ret)) (.skip)))
  (.cln [1] (.reg [⟨some 16, .faddr 4 (.t 1), none⟩,
    ⟨some 17, .load none (.t 16), none⟩,
    ⟨some 18, .iaddr 5 (.t 17) (.c (.int .i64 0)), none⟩,
    ⟨some 19, .load (some 5) (.t 18), none⟩,
    ⟨none, .store (some 5) (.t 1) (.t 19), none⟩])))))))
/-- frustum/frustumref20.root -/
def p194 : PFn := { nparams := 1, ntmps := 25, nobjs := 1, pure := true, keep := false, results := [⟨2, none⟩, ⟨3, none⟩], body := (.cln (List.range 1) (.seq (.reg [⟨some 1, .box 0 (.t 0), none⟩,
    ⟨some 2, .mov (.c (.str [])), none⟩,
    ⟨some 3, .mov (.c (.bool false)), none⟩])
  (.seq (.block 0 (p194l0))
  (.cln [1] (.seq (.regd [⟨0, ⟨some 20, .faddr 2 (.t 1), none⟩, false, [], []⟩,
    ⟨1, ⟨some 21, .load none (.t 20), none⟩, false, [0], []⟩,
    ⟨2, ⟨some 22, .faddr 0 (.t 1), none⟩, false, [], []⟩,
    ⟨3, ⟨some 23, .load none (.t 22), none⟩, false, [2], []⟩,
    ⟨4, ⟨some 24, .bini .eql (.t 23) (.c (.int .i64 4)), none⟩, false, [2, 3], []⟩,
    ⟨5, ⟨some 2, .mov (.t 21), none⟩, false, [0, 1], []⟩,
    ⟨6, ⟨some 3, .mov (.t 24), none⟩, false, .range 6, []⟩] ([0, 1, 5, 2, 3, 4, 6]) 25)
  (.ret)))))) }
/-- frustum/frustumref20.assign -/
def p177 : PFn := { nparams := 3, ntmps := 79, nobjs := 2, pure := true, keep := false, results := [⟨6, none⟩], body := (.cln (List.range 3) (.seq (.reg [⟨some 3, .boxi (.t 0), none⟩,
    ⟨some 5, .boxi (.t 2), none⟩,
    ⟨some 6, .mov (.c (.int .i64 0)), none⟩])
  (.seq (.reg [⟨some 14, .faddr 4 (.t 5), none⟩,
    ⟨some 15, .load (some 5) (.t 14), none⟩,
    ⟨some 16, .call (.c (.fn 194 [] [])) [.t 15], none⟩,
    ⟨some 13, .mov (.t 16), none⟩,
    ⟨some 17, .extract (.t 13) 0, none⟩,
    ⟨some 18, .extract (.t 13) 1, none⟩,
    ⟨some 7, .mov (.t 17), none⟩,
    ⟨some 8, .mov (.t 18), none⟩])
  (.seq (.seq (.reg [⟨some 19, .mov (.t 8), none⟩,
    ⟨some 20, .notb (.t 19), none⟩])
  (.cond (.t 20) (.seq (.reg [⟨some 6, .mov (.c (.int .i64 10)), none⟩])
  (.ret)) (.skip)))
  (.cln [1, 3, 5, 7] (.seq (.reg [⟨some 22, .faddr 0 (.t 3), none⟩,
    ⟨some 23, .load (some 9) (.t 22), none⟩,
    ⟨some 24, .mov (.t 1), none⟩,
    ⟨some 25, .faddr 4 (.t 5), none⟩,
    ⟨some 26, .load (some 5) (.t 25), none⟩,
    ⟨some 27, .call (.c (.fn 108 [] [])) [.t 23, .t 24, .t 26], none⟩,
    ⟨some 21, .mov (.t 27), none⟩,
    ⟨some 28, .extract (.t 21) 0, none⟩,
    ⟨some 29, .extract (.t 21) 1, none⟩,
    ⟨some 9, .alloc 0 (.agg [.int .i64 0, .str []]), none⟩,
    ⟨none, .store (some 2) (.t 9) (.t 28), none⟩,
    ⟨some 10, .mov (.t 29), none⟩])
  (.seq (.seq (.reg [⟨some 30, .mov (.t 10), none⟩,
    ⟨some 31, .bini .neq (.t 30) (.c (.int .i64 0)), none⟩])
  (.cond (.t 31) (.seq (.reg [⟨some 32, .mov (.t 10), none⟩,
    ⟨some 6, .mov (.t 32), none⟩])
  (.ret)) (.skip)))
  (.cln [1, 3, 5, 7, 9] (.seq (.reg [⟨some 33, .mov (.t 1), none⟩,
    ⟨some 34, .mov (.t 7), none⟩,
    ⟨some 35, .call (.c (.fn 179 [] [])) [.t 33, .t 34], none⟩,
    ⟨some 11, .mov (.t 35), none⟩])
  (.seq (.seq (.reg [⟨some 36, .mov (.t 11), none⟩,
    ⟨some 37, .bini .geq (.t 36) (.c (.int .i64 0)), none⟩,
    ⟨some 38, .mov (.t 37), none⟩,
    ⟨some 39, .mov (.t 11), some (38, true)⟩,
    ⟨some 40, .faddr 9 (.t 3), some (38, true)⟩,
    ⟨some 41, .load none (.t 40), some (38, true)⟩,
    ⟨some 42, .bini .lss (.t 39) (.t 41), some (38, true)⟩,
    ⟨some 43, .pick (.t 38) (.t 42) (.c (.bool false)), none⟩,
    ⟨some 44, .mov (.t 43), none⟩,
    ⟨some 45, .mov (.t 11), some (44, false)⟩,
    ⟨some 46, .bini .lss (.t 45) (.c (.int .i64 0)), some (44, false)⟩,
    ⟨some 47, .mov (.t 46), some (44, false)⟩,
    ⟨some 48, .faddr 0 (.t 3), some (47, true)⟩,
    ⟨some 49, .faddr 2 (.t 48), some (47, true)⟩,
    ⟨some 50, .load none (.t 49), some (47, true)⟩,
    ⟨some 51, .mov (.t 7), some (47, true)⟩,
    ⟨some 52, .call (.c (.fn 101 [] [])) [.t 50, .t 51], some (47, true)⟩,
    ⟨some 53, .bini .geq (.t 52) (.c (.int .i64 0)), some (47, true)⟩,
    ⟨some 54, .mov (.t 53), some (47, true)⟩,
    ⟨some 55, .faddr 0 (.t 3), some (54, false)⟩,
    ⟨some 56, .faddr 5 (.t 55), some (54, false)⟩,
    ⟨some 57, .load none (.t 56), some (54, false)⟩,
    ⟨some 58, .mov (.t 7), some (54, false)⟩,
    ⟨some 59, .call (.c (.fn 101 [] [])) [.t 57, .t 58], some (54, false)⟩,
    ⟨some 60, .bini .geq (.t 59) (.c (.int .i64 0)), some (54, false)⟩,
    ⟨some 61, .pick (.t 54) (.c (.bool true)) (.t 60), some (47, true)⟩,
    ⟨some 62, .pick (.t 47) (.t 61) (.c (.bool false)), some (44, false)⟩,
    ⟨some 63, .pick (.t 44) (.c (.bool true)) (.t 62), none⟩])
  (.cond (.t 63) (.seq (.reg [⟨some 6, .mov (.c (.int .i64 13)), none⟩])
  (.ret)) (.skip)))
  (.cln [1, 3, 5, 9] (.seq (.reg [⟨some 65, .faddr 0 (.t 3), none⟩,
    ⟨some 66, .load (some 9) (.t 65), none⟩,
    ⟨some 67, .mov (.t 1), none⟩,
    ⟨some 68, .faddr 9 (.t 5), none⟩,
    ⟨some 69, .load (some 5) (.t 68), none⟩,
    ⟨some 70, .call (.c (.fn 108 [] [])) [.t 66, .t 67, .t 69], none⟩,
    ⟨some 64, .mov (.t 70), none⟩,
    ⟨some 71, .extract (.t 64) 0, none⟩,
    ⟨some 72, .extract (.t 64) 1, none⟩,
    ⟨some 12, .alloc 1 (.agg [.int .i64 0, .str []]), none⟩,
    ⟨none, .store (some 2) (.t 12) (.t 71), none⟩,
    ⟨some 10, .mov (.t 72), none⟩])
  (.seq (.seq (.reg [⟨some 73, .mov (.t 10), none⟩,
    ⟨some 74, .bini .neq (.t 73) (.c (.int .i64 0)), none⟩])
  (.cond (.t 74) (.seq (.reg [⟨some 75, .mov (.t 10), none⟩,
    ⟨some 6, .mov (.t 75), none⟩])
  (.ret)) (.skip)))
  (.cln [9, 12] (.seq (.seq (.reg [⟨some 76, .load (some 2) (.t 12), none⟩,
    ⟨some 77, .load (some 2) (.t 9), none⟩,
    ⟨some 78, .eq true (.parts [(0, 1, .ei), (1, 1, .es)]) (.t 76) (.t 77), none⟩])
  (.cond (.t 78) (.seq (.reg [⟨some 6, .mov (.c (.int .i64 12)), none⟩])
  (.ret)) (.skip)))
  (.cln [] (.seq (.reg [⟨some 6, .mov (.c (.int .i64 0)), none⟩])
  (.ret)))))))))))))))))) }
/-- frustum/frustumref20.inner -/
def p69 : PFn := { nparams := 3, ntmps := 17, nobjs := 0, pure := true, keep := false, results := [⟨6, none⟩], body := (.cln (List.range 3) (.seq (.reg [⟨some 3, .boxi (.t 0), none⟩,
    ⟨some 6, .mov (.c (.int .i64 0)), none⟩])
  (.seq (.reg [⟨some 10, .load (some 12) (.t 3), none⟩,
    ⟨some 11, .mov (.t 1), none⟩,
    ⟨some 12, .mov (.t 2), none⟩,
    ⟨some 13, .call (.c (.fn 107 [] [])) [.t 10, .t 11, .t 12], none⟩,
    ⟨some 9, .mov (.t 13), none⟩,
    ⟨some 14, .extract (.t 9) 0, none⟩,
    ⟨some 15, .extract (.t 9) 1, none⟩,
    ⟨some 7, .mov (.t 14), none⟩,
    ⟨some 8, .mov (.t 15), none⟩])
  (.seq (.reg [⟨some 16, .mov (.t 8), none⟩,
    ⟨some 6, .mov (.t 16), none⟩])
  (.ret))))) }
/-- frustum/frustumref20.only -/
def p178 : PFn := { nparams := 1, ntmps := 5, nobjs := 0, pure := true, keep := false, results := [⟨2, none⟩], body := (.cln (List.range 1) (.seq (.reg [⟨some 2, .mov (.c (.int .i64 0)), none⟩])
  (.seq (.seq (.reg [⟨some 3, .mov (.t 0), none⟩,
    ⟨some 4, .notb (.t 3), none⟩])
  (.cond (.t 4) (.seq (.reg [⟨some 2, .mov (.c (.int .i64 10)), none⟩])
  (.ret)) (.skip)))
  (.cln [] (.seq (.reg [⟨some 2, .mov (.c (.int .i64 0)), none⟩])
  (.ret)))))) }
/-- frustum/frustumref20.stmt -/
def p146 : PFn := { nparams := 3, ntmps := 109, nobjs := 2, pure := true, keep := false, results := [⟨6, none⟩], body := (.cln (List.range 3) (.seq (.reg [⟨some 3, .box 0 (.t 0), none⟩,
    ⟨some 5, .boxi (.t 2), none⟩,
    ⟨some 6, .mov (.c (.int .i64 0)), none⟩])
  (.seq (.seq (.reg [⟨some 10, .faddr 0 (.t 5), none⟩,
    ⟨some 11, .load none (.t 10), none⟩])
  (.block 0 (.seq (.reg [⟨some 13, .bini .eql (.t 11) (.c (.int .i64 1)), none⟩,
    ⟨some 12, .mov (.t 13), none⟩])
  (.cond (.t 12) (.seq (.reg [⟨some 14, .load (some 12) (.t 3), none⟩,
    ⟨some 15, .mov (.t 1), none⟩,
    ⟨some 16, .load (some 17) (.t 5), none⟩,
    ⟨some 17, .call (.c (.fn 176 [] [])) [.t 14, .t 15, .t 16], none⟩,
    ⟨some 6, .mov (.t 17), none⟩])
  (.ret)) (.seq (.reg [⟨some 19, .bini .eql (.t 11) (.c (.int .i64 2)), none⟩,
    ⟨some 18, .mov (.t 19), none⟩])
  (.cond (.t 18) (.seq (.reg [⟨some 20, .load (some 12) (.t 3), none⟩,
    ⟨some 21, .mov (.t 1), none⟩,
    ⟨some 22, .load (some 17) (.t 5), none⟩,
    ⟨some 23, .call (.c (.fn 177 [] [])) [.t 20, .t 21, .t 22], none⟩,
    ⟨some 6, .mov (.t 23), none⟩])
  (.ret)) (.seq (.reg [⟨some 25, .bini .eql (.t 11) (.c (.int .i64 3)), none⟩,
    ⟨some 24, .mov (.t 25), none⟩])
  (.cond (.t 24) (.seq (.reg [⟨some 27, .faddr 0 (.t 3), none⟩,
    ⟨some 28, .load (some 9) (.t 27), none⟩,
    ⟨some 29, .mov (.t 1), none⟩,
    ⟨some 30, .faddr 9 (.t 5), none⟩,
    ⟨some 31, .load (some 5) (.t 30), none⟩,
    ⟨some 32, .call (.c (.fn 108 [] [])) [.t 28, .t 29, .t 31], none⟩,
    ⟨some 26, .mov (.t 32), none⟩,
    ⟨some 33, .extract (.t 26) 0, none⟩,
    ⟨some 34, .extract (.t 26) 1, none⟩,
    ⟨some 7, .alloc 1 (.agg [.int .i64 0, .str []]), none⟩,
    ⟨none, .store (some 2) (.t 7) (.t 33), none⟩,
    ⟨some 8, .mov (.t 34), none⟩])
  (.seq (.seq (.reg [⟨some 35, .mov (.t 8), none⟩,
    ⟨some 36, .bini .neq (.t 35) (.c (.int .i64 0)), none⟩])
  (.cond (.t 36) (.seq (.reg [⟨some 37, .mov (.t 8), none⟩,
    ⟨some 6, .mov (.t 37), none⟩])
  (.ret)) (.skip)))
  (.cln [1, 3, 5, 7] (.seq (.seq (.regd [⟨0, ⟨some 38, .load (some 2) (.t 7), none⟩, false, [], []⟩,
    ⟨1, ⟨some 39, .call (.c (.fn 154 [] [])) [.c (.int .i64 4)], none⟩, true, [], [0]⟩,
    ⟨2, ⟨some 40, .eq true (.parts [(0, 1, .ei), (1, 1, .es)]) (.t 38) (.t 39), none⟩, false, [0, 1], []⟩] ([0, 1, 2]) 41)
  (.cond (.t 40) (.seq (.reg [⟨some 6, .mov (.c (.int .i64 12)), none⟩])
  (.ret)) (.skip)))
  (.cln [1, 3, 5] (.seq (.seq (.reg [⟨some 41, .load (some 12) (.t 3), none⟩,
    ⟨some 42, .mov (.t 1), none⟩,
    ⟨some 43, .faddr 15 (.t 5), none⟩,
    ⟨some 44, .load none (.t 43), none⟩,
    ⟨some 45, .call (.c (.fn 69 [] [])) [.t 41, .t 42, .t 44], none⟩,
    ⟨some 9, .mov (.t 45), none⟩])
  (.seq (.reg [⟨some 46, .mov (.t 9), none⟩,
    ⟨some 47, .bini .neq (.t 46) (.c (.int .i64 0)), none⟩])
  (.cond (.t 47) (.seq (.reg [⟨some 48, .mov (.t 9), none⟩,
    ⟨some 6, .mov (.t 48), none⟩])
  (.ret)) (.skip))))
  (.cln [1, 3, 5] (.seq (.reg [⟨some 49, .load (some 12) (.t 3), none⟩,
    ⟨some 50, .mov (.t 1), none⟩,
    ⟨some 51, .faddr 16 (.t 5), none⟩,
    ⟨some 52, .load none (.t 51), none⟩,
    ⟨some 53, .call (.c (.fn 69 [] [])) [.t 49, .t 50, .t 52], none⟩,
    ⟨some 6, .mov (.t 53), none⟩])
  (.ret))))))))) (.seq (.reg [⟨some 55, .bini .eql (.t 11) (.c (.int .i64 4)), none⟩,
    ⟨some 54, .mov (.t 55), none⟩])
  (.cond (.t 54) (.seq (.seq (.reg [⟨some 56, .faddr 10 (.t 3), none⟩,
    ⟨some 57, .load none (.t 56), none⟩,
    ⟨some 58, .notb (.t 57), none⟩])
  (.cond (.t 58) (.seq (.reg [⟨some 6, .mov (.c (.int .i64 10)), none⟩])
  (.ret)) (.skip)))
  (.cln [1, 3, 5] (.seq (.seq (.reg [⟨some 59, .faddr 14 (.t 5), none⟩,
    ⟨some 60, .load none (.t 59), none⟩,
    ⟨some 61, .bini .lss (.t 60) (.c (.int .i64 1)), none⟩,
    ⟨some 62, .mov (.t 61), none⟩,
    ⟨some 63, .faddr 14 (.t 5), some (62, false)⟩,
    ⟨some 64, .load none (.t 63), some (62, false)⟩,
    ⟨some 65, .bini .gtr (.t 64) (.c (.int .i64 16)), some (62, false)⟩,
    ⟨some 66, .pick (.t 62) (.c (.bool true)) (.t 65), none⟩])
  (.cond (.t 66) (.seq (.reg [⟨some 6, .mov (.c (.int .i64 6)), none⟩])
  (.ret)) (.skip)))
  (.cln [1, 3, 5] (.seq (.seq (.reg [⟨some 67, .faddr 11 (.t 3), none⟩,
    ⟨some 68, .load none (.t 67), none⟩,
    ⟨some 69, .bini .geq (.t 68) (.c (.int .i64 3)), none⟩])
  (.cond (.t 69) (.seq (.reg [⟨some 6, .mov (.c (.int .i64 5)), none⟩])
  (.ret)) (.skip)))
  (.cln [1, 3, 5] (.seq (.reg [⟨some 70, .faddr 11 (.t 3), none⟩,
    ⟨some 71, .load none (.t 70), none⟩,
    ⟨some 72, .bini .add (.t 71) (.c (.int .i64 1)), none⟩,
    ⟨some 73, .faddr 11 (.t 3), none⟩,
    ⟨none, .store none (.t 73) (.t 72), none⟩])
  (.seq (.reg [⟨some 74, .load (some 12) (.t 3), none⟩,
    ⟨some 75, .mov (.t 1), none⟩,
    ⟨some 76, .faddr 15 (.t 5), none⟩,
    ⟨some 77, .load none (.t 76), none⟩,
    ⟨some 78, .call (.c (.fn 69 [] [])) [.t 74, .t 75, .t 77], none⟩,
    ⟨some 6, .mov (.t 78), none⟩])
  (.ret))))))))) (.seq (.seq (.reg [⟨some 80, .bini .eql (.t 11) (.c (.int .i64 5)), none⟩,
    ⟨some 79, .mov (.t 80), none⟩])
  (.cond (.t 79) (.skip) (.reg [⟨some 81, .bini .eql (.t 11) (.c (.int .i64 6)), none⟩,
    ⟨some 79, .mov (.t 81), none⟩])))
  (.cln [3, 11, 79] (.cond (.t 79) (.seq (.reg [⟨some 82, .faddr 11 (.t 3), none⟩,
    ⟨some 83, .load none (.t 82), none⟩,
    ⟨some 84, .bini .gtr (.t 83) (.c (.int .i64 0)), none⟩,
    ⟨some 85, .call (.c (.fn 178 [] [])) [.t 84], none⟩,
    ⟨some 6, .mov (.t 85), none⟩])
  (.ret)) (.seq (.reg [⟨some 87, .bini .eql (.t 11) (.c (.int .i64 7)), none⟩,
    ⟨some 86, .mov (.t 87), none⟩])
  (.cond (.t 86) (.seq (.reg [⟨some 88, .faddr 10 (.t 3), none⟩,
    ⟨some 89, .load none (.t 88), none⟩,
    ⟨some 90, .mov (.t 89), none⟩,
    ⟨some 91, .faddr 0 (.t 3), some (90, true)⟩,
    ⟨some 92, .faddr 0 (.t 91), some (90, true)⟩,
    ⟨some 93, .load none (.t 92), some (90, true)⟩,
    ⟨some 94, .bini .eql (.t 93) (.c (.int .i64 3)), some (90, true)⟩,
    ⟨some 95, .pick (.t 90) (.t 94) (.c (.bool false)), none⟩,
    ⟨some 96, .call (.c (.fn 178 [] [])) [.t 95], none⟩,
    ⟨some 6, .mov (.t 96), none⟩])
  (.ret)) (.seq (.seq (.reg [⟨some 98, .bini .eql (.t 11) (.c (.int .i64 8)), none⟩,
    ⟨some 97, .mov (.t 98), none⟩])
  (.cond (.t 97) (.skip) (.reg [⟨some 99, .bini .eql (.t 11) (.c (.int .i64 9)), none⟩,
    ⟨some 97, .mov (.t 99), none⟩])))
  (.cln [3, 97] (.cond (.t 97) (.seq (.reg [⟨some 100, .faddr 10 (.t 3), none⟩,
    ⟨some 101, .load none (.t 100), none⟩,
    ⟨some 102, .mov (.t 101), none⟩,
    ⟨some 103, .faddr 0 (.t 3), some (102, true)⟩,
    ⟨some 104, .faddr 0 (.t 103), some (102, true)⟩,
    ⟨some 105, .load none (.t 104), some (102, true)⟩,
    ⟨some 106, .bini .eql (.t 105) (.c (.int .i64 2)), some (102, true)⟩,
    ⟨some 107, .pick (.t 102) (.t 106) (.c (.bool false)), none⟩,
    ⟨some 108, .call (.c (.fn 178 [] [])) [.t 107], none⟩,
    ⟨some 6, .mov (.t 108), none⟩])
  (.ret)) (.skip)))))))))))))))))))
  (.cln [] (.seq (.reg [⟨some 6, .mov (.c (.int .i64 10)), none⟩])
  (.ret)))))) }
def p107l0 : PC := .loop (.cln [1, 2, 3, 8] (.seq (.seq (.reg [⟨some 11, .mov (.t 8), none⟩,
    ⟨some 12, .mov (.t 2), none⟩,
    ⟨some 13, .lenl (.t 12), none⟩,
    ⟨some 14, .bini .lss (.t 11) (.t 13), none⟩])
  (.cond (.t 14) (.skip) (.exit 0)))
  (.cln [1, 2, 3, 8] (.seq (.block 1 (.seq (.seq (.regd [⟨0, ⟨some 17, .load (some 12) (.t 3), none⟩, false, [], []⟩,
    ⟨1, ⟨some 18, .mov (.t 1), none⟩, false, [], []⟩,
    ⟨2, ⟨some 19, .mov (.t 2), none⟩, false, [], []⟩,
    ⟨3, ⟨some 20, .mov (.t 8), none⟩, false, [], []⟩,
    ⟨4, ⟨some 21, .iaddr 17 (.t 19) (.t 20), none⟩, false, [2, 3], []⟩,
    ⟨5, ⟨some 22, .load (some 17) (.t 21), none⟩, false, [2, 3, 4], []⟩,
    ⟨6, ⟨some 23, .call (.c (.fn 146 [] [])) [.t 17, .t 18, .t 22], none⟩, true, .range 6, []⟩,
    ⟨7, ⟨some 9, .mov (.t 23), none⟩, false, .range 7, []⟩] (.range 8) 24)
  (.seq (.reg [⟨some 24, .mov (.t 9), none⟩,
    ⟨some 25, .bini .neq (.t 24) (.c (.int .i64 0)), none⟩])
  (.cond (.t 25) (.seq (.reg [⟨some 26, .mov (.t 9), none⟩,
    ⟨some 6, .mov (.c (.vs .nil [])), none⟩,
    ⟨some 7, .mov (.t 26), none⟩])
  (.ret)) (.skip))))
  (.cln [1, 2, 3, 8] (.seq (.reg [⟨some 27, .mov (.t 2), none⟩,
    ⟨some 28, .mov (.t 8), none⟩,
    ⟨some 29, .iaddr 17 (.t 27) (.t 28), none⟩,
    ⟨some 30, .faddr 0 (.t 29), none⟩,
    ⟨some 31, .load none (.t 30), none⟩,
    ⟨some 32, .bini .eql (.t 31) (.c (.int .i64 1)), none⟩])
  (.cond (.t 32) (.seq (.reg [⟨some 10, .vec 0 true 3, none⟩])
  (.seq (.reg [⟨some 33, .mov (.t 10), none⟩,
    ⟨some 34, .mov (.t 1), none⟩,
    ⟨some 35, .append 1 true 3 40 (.t 33) (.t 34), none⟩,
    ⟨some 10, .mov (.t 35), none⟩])
  (.regd [⟨0, ⟨some 36, .mov (.t 10), none⟩, false, [], []⟩,
    ⟨1, ⟨some 37, .mov (.t 2), none⟩, false, [], []⟩,
    ⟨2, ⟨some 38, .mov (.t 8), none⟩, false, [], []⟩,
    ⟨3, ⟨some 39, .iaddr 17 (.t 37) (.t 38), none⟩, false, [1, 2], []⟩,
    ⟨4, ⟨some 40, .faddr 1 (.t 39), none⟩, false, [1, 2, 3], []⟩,
    ⟨5, ⟨some 41, .load none (.t 40), none⟩, false, [1, 2, 3, 4], []⟩,
    ⟨6, ⟨some 42, .mov (.t 2), none⟩, false, [], []⟩,
    ⟨7, ⟨some 43, .mov (.t 8), none⟩, false, [], []⟩,
    ⟨8, ⟨some 44, .iaddr 17 (.t 42) (.t 43), none⟩, false, [6, 7], []⟩,
    ⟨9, ⟨some 45, .faddr 2 (.t 44), none⟩, false, [6, 7, 8], []⟩,
    ⟨10, ⟨some 46, .load (some 2) (.t 45), none⟩, false, [6, 7, 8, 9], []⟩,
    ⟨11, ⟨some 47, .build [.str [], .int .i64 0, .str []] [(0, 1, .t 41), (1, 2, .t 46)], none⟩, false, [1, 2, 3, 4, 5, 6, 7, 8, 9, 10], []⟩,
    ⟨12, ⟨some 48, .bsl [.agg [.str [], .int .i64 0, .str []]] [(0, .t 47)], none⟩, false, [1, 2, 3, 4, 5, 6, 7, 8, 9, 10, 11], []⟩,
    ⟨13, ⟨some 49, .append 2 true 3 40 (.t 36) (.t 48), none⟩, true, .range 13, []⟩,
    ⟨14, ⟨some 1, .mov (.t 49), none⟩, false, .range 14, []⟩] (.range 15) 50))) (.skip))))))
  (.cln [1, 2, 3, 8] (.reg [⟨some 15, .mov (.t 8), none⟩,
    ⟨some 16, .bini .add (.t 15) (.c (.int .i64 1)), none⟩,
    ⟨some 8, .mov (.t 16), none⟩]))))))
/-- frustum/frustumref20.block -/
def p107 : PFn := { nparams := 3, ntmps := 51, nobjs := 3, pure := true, keep := false, results := [⟨6, none⟩, ⟨7, none⟩], body := (.cln (List.range 3) (.seq (.reg [⟨some 3, .boxi (.t 0), none⟩,
    ⟨some 6, .mov (.c (.vs .nil [])), none⟩,
    ⟨some 7, .mov (.c (.int .i64 0)), none⟩])
  (.seq (.seq (.reg [⟨some 8, .mov (.c (.int .i64 0)), none⟩])
  (.block 0 (p107l0)))
  (.cln [1] (.seq (.reg [⟨some 50, .frz (.t 1), none⟩,
    ⟨some 6, .mov (.t 50), none⟩,
    ⟨some 7, .mov (.c (.int .i64 0)), none⟩])
  (.ret)))))) }
/-- frustum/frustumref20.function -/
def p68 : PFn := { nparams := 2, ntmps := 93, nobjs := 4, pure := true, keep := false, results := [⟨4, none⟩], body := (.cln (List.range 2) (.seq (.reg [⟨some 2, .boxi (.t 0), none⟩,
    ⟨some 4, .mov (.c (.int .i64 0)), none⟩])
  (.seq (.reg [⟨some 12, .faddr 7 (.t 2), none⟩,
    ⟨some 13, .load none (.t 12), none⟩,
    ⟨some 14, .mov (.t 1), none⟩,
    ⟨some 15, .iaddr 10 (.t 13) (.t 14), none⟩,
    ⟨some 16, .load (some 10) (.t 15), none⟩,
    ⟨some 5, .alloc 0 (.agg [.str [], .vs .nil [], .int .i64 0, .str [], .vs .nil [], .int .i64 0, .int .i64 0, .str [], .int .i64 0, .vs .nil []]), none⟩,
    ⟨none, .store (some 10) (.t 5) (.t 16), none⟩])
  (.seq (.reg [⟨some 17, .load (some 9) (.t 2), none⟩,
    ⟨some 6, .alloc 1 (.agg [.int .i64 0, .vs .nil [], .vs .nil [], .vs .nil [], .vs .nil [], .vs .nil [], .vs .nil [], .vs .nil [], .vs .nil []]), none⟩,
    ⟨none, .store (some 9) (.t 6) (.t 17), none⟩])
  (.seq (.reg [⟨some 18, .faddr 7 (.t 2), none⟩,
    ⟨some 19, .load none (.t 18), none⟩,
    ⟨some 20, .mov (.t 1), none⟩,
    ⟨some 21, .slc 10 (.t 19) none (some (.t 20)) none, none⟩,
    ⟨some 22, .faddr 7 (.t 6), none⟩,
    ⟨none, .store none (.t 22) (.t 21), none⟩])
  (.seq (.seq (.reg [⟨some 23, .faddr 0 (.t 5), none⟩,
    ⟨some 24, .load none (.t 23), none⟩,
    ⟨some 25, .call (.c (.fn 99 [] [])) [.t 24], none⟩,
    ⟨some 26, .notb (.t 25), none⟩,
    ⟨some 27, .mov (.t 26), none⟩,
    ⟨some 28, .load (some 9) (.t 6), some (27, false)⟩,
    ⟨some 29, .faddr 0 (.t 5), some (27, false)⟩,
    ⟨some 30, .load none (.t 29), some (27, false)⟩,
    ⟨some 31, .call (.c (.fn 106 [] [])) [.t 28, .t 30], some (27, false)⟩,
    ⟨some 32, .pick (.t 27) (.c (.bool true)) (.t 31), none⟩])
  (.cond (.t 32) (.seq (.reg [⟨some 4, .mov (.c (.int .i64 13)), none⟩])
  (.ret)) (.skip)))
  (.cln [1, 2, 5, 6] (.seq (.seq (.reg [⟨some 33, .faddr 1 (.t 5), none⟩,
    ⟨some 34, .load none (.t 33), none⟩,
    ⟨some 35, .lenl (.t 34), none⟩,
    ⟨some 36, .bini .gtr (.t 35) (.c (.int .i64 16)), none⟩])
  (.cond (.t 36) (.seq (.reg [⟨some 4, .mov (.c (.int .i64 11)), none⟩])
  (.ret)) (.skip)))
  (.cln [1, 2, 5, 6] (.seq (.reg [⟨some 37, .faddr 7 (.t 2), none⟩,
    ⟨some 38, .load none (.t 37), none⟩,
    ⟨some 39, .mov (.t 1), none⟩,
    ⟨some 40, .bini .add (.t 39) (.c (.int .i64 1)), none⟩,
    ⟨some 41, .slc 10 (.t 38) none (some (.t 40)) none, none⟩,
    ⟨some 42, .faddr 7 (.t 6), none⟩,
    ⟨none, .store none (.t 42) (.t 41), none⟩])
  (.seq (.seq (.reg [⟨some 43, .load (some 9) (.t 6), none⟩,
    ⟨some 44, .load (some 9) (.t 2), none⟩,
    ⟨some 45, .faddr 1 (.t 5), none⟩,
    ⟨some 46, .load none (.t 45), none⟩,
    ⟨some 47, .call (.c (.fn 103 [] [])) [.t 43, .t 44, .t 46], none⟩,
    ⟨some 7, .mov (.t 47), none⟩])
  (.seq (.reg [⟨some 48, .mov (.t 7), none⟩,
    ⟨some 49, .bini .neq (.t 48) (.c (.int .i64 0)), none⟩])
  (.cond (.t 49) (.seq (.reg [⟨some 50, .mov (.t 7), none⟩,
    ⟨some 4, .mov (.t 50), none⟩])
  (.ret)) (.skip))))
  (.cln [1, 2, 5] (.seq (.seq (.reg [⟨some 51, .load (some 9) (.t 2), none⟩,
    ⟨some 52, .faddr 2 (.t 5), none⟩,
    ⟨some 53, .load (some 2) (.t 52), none⟩,
    ⟨some 54, .faddr 1 (.t 2), none⟩,
    ⟨some 55, .load none (.t 54), none⟩,
    ⟨some 56, .lenl (.t 55), none⟩,
    ⟨some 57, .call (.c (.fn 102 [] [])) [.t 51, .t 53, .t 56], none⟩,
    ⟨some 58, .notb (.t 57), none⟩])
  (.cond (.t 58) (.seq (.reg [⟨some 4, .mov (.c (.int .i64 12)), none⟩])
  (.ret)) (.skip)))
  (.cln [1, 2, 5] (.seq (.reg [⟨some 59, .load (some 9) (.t 2), none⟩,
    ⟨some 60, .mov (.t 1), none⟩,
    ⟨some 61, .call (.c (.fn 70 [] [])) [.t 59, .t 60], none⟩,
    ⟨some 8, .alloc 2 (.agg [.int .i64 0, .vs .nil [], .vs .nil [], .vs .nil [], .vs .nil [], .vs .nil [], .vs .nil [], .vs .nil [], .vs .nil []]), none⟩,
    ⟨none, .store (some 9) (.t 8) (.t 61), none⟩])
  (.seq (.reg [⟨some 63, .load (some 9) (.t 8), none⟩,
    ⟨some 64, .faddr 1 (.t 5), none⟩,
    ⟨some 65, .load none (.t 64), none⟩,
    ⟨some 66, .lenl (.t 65), none⟩,
    ⟨some 67, .build [.int .i64 0, .vs .nil [], .vs .nil [], .vs .nil [], .vs .nil [], .vs .nil [], .vs .nil [], .vs .nil [], .vs .nil [], .int .i64 0, .bool false, .int .i64 0] [(0, 9, .t 63), (9, 1, .t 66)], none⟩,
    ⟨some 68, .faddr 1 (.t 5), none⟩,
    ⟨some 69, .load none (.t 68), none⟩,
    ⟨some 70, .faddr 4 (.t 5), none⟩,
    ⟨some 71, .load none (.t 70), none⟩,
    ⟨some 72, .call (.c (.fn 107 [] [])) [.t 67, .t 69, .t 71], none⟩,
    ⟨some 62, .mov (.t 72), none⟩,
    ⟨some 73, .extract (.t 62) 0, none⟩,
    ⟨some 74, .extract (.t 62) 1, none⟩,
    ⟨some 9, .mov (.t 73), none⟩,
    ⟨some 10, .mov (.t 74), none⟩])
  (.seq (.seq (.reg [⟨some 75, .mov (.t 10), none⟩,
    ⟨some 76, .bini .neq (.t 75) (.c (.int .i64 0)), none⟩])
  (.cond (.t 76) (.seq (.reg [⟨some 77, .mov (.t 10), none⟩,
    ⟨some 4, .mov (.t 77), none⟩])
  (.ret)) (.skip)))
  (.cln [5, 8, 9] (.seq (.reg [⟨some 79, .load (some 9) (.t 8), none⟩,
    ⟨some 80, .mov (.t 9), none⟩,
    ⟨some 81, .faddr 5 (.t 5), none⟩,
    ⟨some 82, .load (some 5) (.t 81), none⟩,
    ⟨some 83, .call (.c (.fn 108 [] [])) [.t 79, .t 80, .t 82], none⟩,
    ⟨some 78, .mov (.t 83), none⟩,
    ⟨some 84, .extract (.t 78) 0, none⟩,
    ⟨some 85, .extract (.t 78) 1, none⟩,
    ⟨some 11, .alloc 3 (.agg [.int .i64 0, .str []]), none⟩,
    ⟨none, .store (some 2) (.t 11) (.t 84), none⟩,
    ⟨some 10, .mov (.t 85), none⟩])
  (.seq (.seq (.reg [⟨some 86, .mov (.t 10), none⟩,
    ⟨some 87, .bini .neq (.t 86) (.c (.int .i64 0)), none⟩])
  (.cond (.t 87) (.seq (.reg [⟨some 88, .mov (.t 10), none⟩,
    ⟨some 4, .mov (.t 88), none⟩])
  (.ret)) (.skip)))
  (.cln [5, 11] (.seq (.seq (.reg [⟨some 89, .load (some 2) (.t 11), none⟩,
    ⟨some 90, .faddr 2 (.t 5), none⟩,
    ⟨some 91, .load (some 2) (.t 90), none⟩,
    ⟨some 92, .eq true (.parts [(0, 1, .ei), (1, 1, .es)]) (.t 89) (.t 91), none⟩])
  (.cond (.t 92) (.seq (.reg [⟨some 4, .mov (.c (.int .i64 12)), none⟩])
  (.ret)) (.skip)))
  (.cln [] (.seq (.reg [⟨some 4, .mov (.c (.int .i64 0)), none⟩])
  (.ret))))))))))))))))))))))))) }
def p42l0 : PC := .loop (.cln [1, 6] (.seq (.seq (.reg [⟨some 31, .mov (.t 6), none⟩,
    ⟨some 32, .faddr 7 (.t 1), none⟩,
    ⟨some 33, .load none (.t 32), none⟩,
    ⟨some 34, .lenl (.t 33), none⟩,
    ⟨some 35, .bini .lss (.t 31) (.t 34), none⟩])
  (.cond (.t 35) (.skip) (.exit 0)))
  (.cln [1, 6] (.seq (.block 1 (.seq (.reg [⟨some 38, .load (some 9) (.t 1), none⟩,
    ⟨some 39, .mov (.t 6), none⟩,
    ⟨some 40, .call (.c (.fn 68 [] [])) [.t 38, .t 39], none⟩,
    ⟨some 7, .mov (.t 40), none⟩])
  (.seq (.reg [⟨some 41, .mov (.t 7), none⟩,
    ⟨some 42, .bini .neq (.t 41) (.c (.int .i64 0)), none⟩])
  (.cond (.t 42) (.seq (.reg [⟨some 43, .mov (.t 7), none⟩,
    ⟨some 2, .mov (.t 43), none⟩])
  (.ret)) (.skip)))))
  (.cln [1, 6] (.reg [⟨some 36, .mov (.t 6), none⟩,
    ⟨some 37, .bini .add (.t 36) (.c (.int .i64 1)), none⟩,
    ⟨some 6, .mov (.t 37), none⟩]))))))
/-- frustum/frustumref20.CheckParts -/
def p42 : PFn := { nparams := 1, ntmps := 49, nobjs := 0, pure := true, keep := false, results := [⟨2, none⟩], body := (.cln (List.range 1) (.seq (.reg [⟨some 1, .boxi (.t 0), none⟩,
    ⟨some 2, .mov (.c (.int .i64 0)), none⟩])
  (.seq (.seq (.reg [⟨some 8, .faddr 0 (.t 1), none⟩,
    ⟨some 9, .load none (.t 8), none⟩,
    ⟨some 10, .bini .lss (.t 9) (.c (.int .i64 1)), none⟩,
    ⟨some 11, .mov (.t 10), none⟩,
    ⟨some 12, .faddr 0 (.t 1), some (11, false)⟩,
    ⟨some 13, .load none (.t 12), some (11, false)⟩,
    ⟨some 14, .bini .gtr (.t 13) (.c (.int .i64 3)), some (11, false)⟩,
    ⟨some 15, .pick (.t 11) (.c (.bool true)) (.t 14), none⟩])
  (.cond (.t 15) (.seq (.reg [⟨some 2, .mov (.c (.int .i64 10)), none⟩])
  (.ret)) (.skip)))
  (.cln [1] (.seq (.seq (.reg [⟨some 16, .load (some 9) (.t 1), none⟩,
    ⟨some 17, .call (.c (.fn 65 [] [])) [.t 16], none⟩,
    ⟨some 3, .mov (.t 17), none⟩])
  (.seq (.reg [⟨some 18, .mov (.t 3), none⟩,
    ⟨some 19, .bini .neq (.t 18) (.c (.int .i64 0)), none⟩])
  (.cond (.t 19) (.seq (.reg [⟨some 20, .mov (.t 3), none⟩,
    ⟨some 2, .mov (.t 20), none⟩])
  (.ret)) (.skip))))
  (.cln [1] (.seq (.seq (.reg [⟨some 21, .load (some 9) (.t 1), none⟩,
    ⟨some 22, .call (.c (.fn 66 [] [])) [.t 21], none⟩,
    ⟨some 4, .mov (.t 22), none⟩])
  (.seq (.reg [⟨some 23, .mov (.t 4), none⟩,
    ⟨some 24, .bini .neq (.t 23) (.c (.int .i64 0)), none⟩])
  (.cond (.t 24) (.seq (.reg [⟨some 25, .mov (.t 4), none⟩,
    ⟨some 2, .mov (.t 25), none⟩])
  (.ret)) (.skip))))
  (.cln [1] (.seq (.seq (.reg [⟨some 26, .load (some 9) (.t 1), none⟩,
    ⟨some 27, .call (.c (.fn 67 [] [])) [.t 26], none⟩,
    ⟨some 5, .mov (.t 27), none⟩])
  (.seq (.reg [⟨some 28, .mov (.t 5), none⟩,
    ⟨some 29, .bini .neq (.t 28) (.c (.int .i64 0)), none⟩])
  (.cond (.t 29) (.seq (.reg [⟨some 30, .mov (.t 5), none⟩,
    ⟨some 2, .mov (.t 30), none⟩])
  (.ret)) (.skip))))
  (.cln [1] (.seq (.seq (.reg [⟨some 6, .mov (.c (.int .i64 0)), none⟩])
  (.block 0 (p42l0)))
  (.cln [1] (.seq (.reg [⟨some 44, .load (some 9) (.t 1), none⟩,
    ⟨some 45, .build [.int .i64 0, .vs .nil [], .vs .nil [], .vs .nil [], .vs .nil [], .vs .nil [], .vs .nil [], .vs .nil [], .vs .nil [], .int .i64 0, .bool false, .int .i64 0] [(0, 9, .t 44), (10, 1, .c (.bool true))], none⟩,
    ⟨some 46, .faddr 8 (.t 1), none⟩,
    ⟨some 47, .load none (.t 46), none⟩,
    ⟨some 48, .call (.c (.fn 69 [] [])) [.t 45, .c (.vs .nil []), .t 47], none⟩,
    ⟨some 2, .mov (.t 48), none⟩])
  (.ret)))))))))))))) }
/-- frustum/frustumref20.heavy -/
def p72 : PFn := { nparams := 2, ntmps := 9, nobjs := 0, pure := true, keep := false, results := [⟨4, none⟩], body := (.cln (List.range 2) (.seq (.reg [⟨some 4, .mov (.c (.int .i64 0)), none⟩])
  (.seq (.reg [⟨some 5, .mov (.t 0), none⟩,
    ⟨some 6, .mov (.t 1), none⟩,
    ⟨some 7, .bini .add (.t 5) (.t 6), none⟩,
    ⟨some 8, .mn (.c (.int .i64 1000000)) [.t 7], none⟩,
    ⟨some 4, .mov (.t 8), none⟩])
  (.ret)))) }
def p73l0 : PC := .loop (.cln [1, 2, 4, 7, 10, 11, 12] (.seq (.seq (.reg [⟨some 30, .mov (.t 12), none⟩,
    ⟨some 31, .faddr 4 (.t 7), none⟩,
    ⟨some 32, .load none (.t 31), none⟩,
    ⟨some 33, .lenl (.t 32), none⟩,
    ⟨some 34, .bini .lss (.t 30) (.t 33), none⟩])
  (.cond (.t 34) (.skip) (.exit 0)))
  (.cln [1, 2, 4, 7, 10, 11, 12] (.seq (.block 1 (.seq (.reg [⟨some 37, .mov (.t 12), none⟩,
    ⟨some 38, .bini .gtr (.t 37) (.c (.int .i64 0)), none⟩,
    ⟨some 39, .mov (.t 38), none⟩,
    ⟨some 40, .mov (.t 10), some (39, false)⟩,
    ⟨some 41, .bini .neq (.t 40) (.c (.int .i64 0)), some (39, false)⟩,
    ⟨some 42, .pick (.t 39) (.c (.bool true)) (.t 41), none⟩,
    ⟨some 43, .mov (.t 42), none⟩,
    ⟨some 44, .load (some 9) (.t 4), some (43, false)⟩,
    ⟨some 45, .load (some 5) (.t 7), some (43, false)⟩,
    ⟨some 46, .call (.c (.fn 110 [] [])) [.t 44, .t 45], some (43, false)⟩,
    ⟨some 47, .notb (.t 46), some (43, false)⟩,
    ⟨some 48, .pick (.t 43) (.c (.bool true)) (.t 47), none⟩])
  (.cond (.t 48) (.regd [⟨0, ⟨some 49, .mov (.t 11), none⟩, false, [], []⟩,
    ⟨1, ⟨some 50, .load (some 9) (.t 4), none⟩, false, [], []⟩,
    ⟨2, ⟨some 51, .mov (.t 1), none⟩, false, [], []⟩,
    ⟨3, ⟨some 52, .mov (.t 2), none⟩, false, [], []⟩,
    ⟨4, ⟨some 53, .faddr 4 (.t 7), none⟩, false, [], []⟩,
    ⟨5, ⟨some 54, .load none (.t 53), none⟩, false, [4], []⟩,
    ⟨6, ⟨some 55, .mov (.t 12), none⟩, false, [], []⟩,
    ⟨7, ⟨some 56, .iaddr 5 (.t 54) (.t 55), none⟩, false, [4, 5, 6], []⟩,
    ⟨8, ⟨some 57, .load (some 5) (.t 56), none⟩, false, [4, 5, 6, 7], []⟩,
    ⟨9, ⟨some 58, .call (.c (.fn 73 [] [])) [.t 50, .t 51, .t 52, .t 57], none⟩, true, [1, 2, 3, 4, 5, 6, 7, 8], []⟩,
    ⟨10, ⟨some 59, .call (.c (.fn 72 [] [])) [.t 49, .t 58], none⟩, true, .range 10, []⟩,
    ⟨11, ⟨some 11, .mov (.t 59), none⟩, true, .range 11, []⟩] (.range 12) 60) (.skip))))
  (.cln [1, 2, 4, 7, 10, 11, 12] (.reg [⟨some 35, .mov (.t 12), none⟩,
    ⟨some 36, .bini .add (.t 35) (.c (.int .i64 1)), none⟩,
    ⟨some 12, .mov (.t 36), none⟩]))))))
/-- frustum/frustumref20.exprWeight -/
def p73 : PFn := { nparams := 4, ntmps := 114, nobjs := 1, pure := true, keep := false, results := [⟨8, none⟩], body := (.cln (List.range 4) (.seq (.reg [⟨some 4, .boxi (.t 0), none⟩,
    ⟨some 7, .boxi (.t 3), none⟩,
    ⟨some 8, .mov (.c (.int .i64 0)), none⟩])
  (.seq (.reg [⟨some 15, .load (some 9) (.t 4), none⟩,
    ⟨some 16, .mov (.t 1), none⟩,
    ⟨some 17, .load (some 5) (.t 7), none⟩,
    ⟨some 18, .call (.c (.fn 108 [] [])) [.t 15, .t 16, .t 17], none⟩,
    ⟨some 14, .mov (.t 18), none⟩,
    ⟨some 19, .extract (.t 14) 0, none⟩,
    ⟨some 20, .extract (.t 14) 1, none⟩,
    ⟨some 9, .alloc 0 (.agg [.int .i64 0, .str []]), none⟩,
    ⟨none, .store (some 2) (.t 9) (.t 19), none⟩,
    ⟨some 10, .mov (.t 20), none⟩])
  (.seq (.reg [⟨some 11, .mov (.c (.int .i64 1)), none⟩])
  (.seq (.seq (.reg [⟨some 21, .mov (.t 10), none⟩,
    ⟨some 22, .bini .eql (.t 21) (.c (.int .i64 0)), none⟩])
  (.cond (.t 22) (.seq (.reg [⟨some 23, .load (some 9) (.t 4), none⟩,
    ⟨some 24, .load (some 2) (.t 9), none⟩,
    ⟨some 25, .call (.c (.fn 109 [] [])) [.t 23, .t 24], none⟩,
    ⟨some 26, .mx (.c (.int .i64 1)) [.t 25], none⟩,
    ⟨some 11, .mov (.t 26), none⟩])
  (.seq (.reg [⟨some 27, .faddr 0 (.t 7), none⟩,
    ⟨some 28, .load none (.t 27), none⟩,
    ⟨some 29, .bini .eql (.t 28) (.c (.int .i64 9)), none⟩])
  (.cond (.t 29) (.reg [⟨some 11, .mov (.c (.int .i64 4)), none⟩]) (.skip)))) (.skip)))
  (.cln [1, 2, 4, 7, 10, 11] (.seq (.seq (.reg [⟨some 12, .mov (.c (.int .i64 0)), none⟩])
  (.block 0 (p73l0)))
  (.cln [2, 4, 7, 10, 11] (.seq (.seq (.reg [⟨some 60, .mov (.t 10), none⟩,
    ⟨some 61, .bini .eql (.t 60) (.c (.int .i64 0)), none⟩,
    ⟨some 62, .mov (.t 61), none⟩,
    ⟨some 63, .faddr 0 (.t 7), some (62, true)⟩,
    ⟨some 64, .load none (.t 63), some (62, true)⟩,
    ⟨some 65, .bini .eql (.t 64) (.c (.int .i64 7)), some (62, true)⟩,
    ⟨some 66, .pick (.t 62) (.t 65) (.c (.bool false)), none⟩,
    ⟨some 67, .mov (.t 66), none⟩,
    ⟨some 68, .faddr 2 (.t 7), some (67, true)⟩,
    ⟨some 69, .load none (.t 68), some (67, true)⟩,
    ⟨some 70, .call (.c (.fn 111 [] [])) [.t 69], some (67, true)⟩,
    ⟨some 71, .bini .eql (.t 70) (.c (.int .i64 0)), some (67, true)⟩,
    ⟨some 72, .pick (.t 67) (.t 71) (.c (.bool false)), none⟩,
    ⟨some 73, .mov (.t 72), none⟩,
    ⟨some 74, .load (some 9) (.t 4), some (73, true)⟩,
    ⟨some 75, .faddr 2 (.t 7), some (73, true)⟩,
    ⟨some 76, .load none (.t 75), some (73, true)⟩,
    ⟨some 77, .call (.c (.fn 100 [] [])) [.t 74, .t 76], some (73, true)⟩,
    ⟨some 78, .bini .lss (.t 77) (.c (.int .i64 0)), some (73, true)⟩,
    ⟨some 79, .pick (.t 73) (.t 78) (.c (.bool false)), none⟩,
    ⟨some 80, .mov (.t 79), none⟩,
    ⟨some 81, .faddr 2 (.t 7), some (80, true)⟩,
    ⟨some 82, .load none (.t 81), some (80, true)⟩,
    ⟨some 83, .call (.c (.fn 112 [] [])) [.t 82], some (80, true)⟩,
    ⟨some 84, .bini .lss (.t 83) (.c (.int .i64 0)), some (80, true)⟩,
    ⟨some 85, .pick (.t 80) (.t 84) (.c (.bool false)), none⟩])
  (.cond (.t 85) (.seq (.reg [⟨some 86, .load (some 9) (.t 4), none⟩,
    ⟨some 87, .faddr 2 (.t 7), none⟩,
    ⟨some 88, .load none (.t 87), none⟩,
    ⟨some 89, .call (.c (.fn 113 [] [])) [.t 86, .t 88], none⟩,
    ⟨some 13, .mov (.t 89), none⟩])
  (.seq (.reg [⟨some 90, .mov (.t 13), none⟩,
    ⟨some 91, .bini .geq (.t 90) (.c (.int .i64 0)), none⟩,
    ⟨some 92, .mov (.t 91), none⟩,
    ⟨some 93, .mov (.t 13), some (92, true)⟩,
    ⟨some 94, .mov (.t 2), some (92, true)⟩,
    ⟨some 95, .lenl (.t 94), some (92, true)⟩,
    ⟨some 96, .bini .lss (.t 93) (.t 95), some (92, true)⟩,
    ⟨some 97, .pick (.t 92) (.t 96) (.c (.bool false)), none⟩])
  (.cond (.t 97) (.regd [⟨0, ⟨some 98, .mov (.t 11), none⟩, false, [], []⟩,
    ⟨1, ⟨some 99, .mov (.t 2), none⟩, false, [], []⟩,
    ⟨2, ⟨some 100, .mov (.t 13), none⟩, false, [], []⟩,
    ⟨3, ⟨some 101, .iaddr 1 (.t 99) (.t 100), none⟩, false, [1, 2], []⟩,
    ⟨4, ⟨some 102, .load none (.t 101), none⟩, false, [1, 2, 3], []⟩,
    ⟨5, ⟨some 103, .load (some 9) (.t 4), none⟩, false, [], []⟩,
    ⟨6, ⟨some 104, .faddr 7 (.t 4), none⟩, false, [], []⟩,
    ⟨7, ⟨some 105, .load none (.t 104), none⟩, false, [6], []⟩,
    ⟨8, ⟨some 106, .mov (.t 13), none⟩, false, [], []⟩,
    ⟨9, ⟨some 107, .iaddr 10 (.t 105) (.t 106), none⟩, false, [6, 7, 8], []⟩,
    ⟨10, ⟨some 108, .faddr 1 (.t 107), none⟩, false, [6, 7, 8, 9], []⟩,
    ⟨11, ⟨some 109, .load none (.t 108), none⟩, false, [6, 7, 8, 9, 10], []⟩,
    ⟨12, ⟨some 110, .call (.c (.fn 105 [] [])) [.t 103, .t 109], none⟩, true, [5, 6, 7, 8, 9, 10, 11], [3, 4]⟩,
    ⟨13, ⟨some 111, .call (.c (.fn 72 [] [])) [.t 102, .t 110], none⟩, true, [1, 2, 3, 4, 5, 6, 7, 8, 9, 10, 11, 12], []⟩,
    ⟨14, ⟨some 112, .call (.c (.fn 72 [] [])) [.t 98, .t 111], none⟩, true, .range 14, []⟩,
    ⟨15, ⟨some 11, .mov (.t 112), none⟩, true, .range 15, []⟩] (.range 16) 113) (.skip)))) (.skip)))
  (.cln [11] (.seq (.reg [⟨some 113, .mov (.t 11), none⟩,
    ⟨some 8, .mov (.t 113), none⟩])
  (.ret)))))))))))) }
def p71l0 : PC := .loop (.cln [1, 2, 3, 4, 10, 11] (.seq (.seq (.reg [⟨some 20, .mov (.t 11), none⟩,
    ⟨some 21, .mov (.t 3), none⟩,
    ⟨some 22, .lenl (.t 21), none⟩,
    ⟨some 23, .bini .lss (.t 20) (.t 22), none⟩])
  (.cond (.t 23) (.skip) (.exit 0)))
  (.cln [1, 2, 3, 4, 10, 11] (.seq (.block 1 (.seq (.reg [⟨some 26, .mov (.t 3), none⟩,
    ⟨some 27, .mov (.t 11), none⟩,
    ⟨some 28, .iaddr 17 (.t 26) (.t 27), none⟩,
    ⟨some 29, .load (some 17) (.t 28), none⟩,
    ⟨some 12, .alloc 0 (.agg [.int .i64 0, .str [], .int .i64 0, .str [], .int .i64 0, .int .i64 0, .str [], .int .i64 0, .vs .nil [], .int .i64 0, .int .i64 0, .str [], .int .i64 0, .vs .nil [], .int .i64 0, .vs .nil [], .vs .nil []]), none⟩,
    ⟨none, .store (some 17) (.t 12) (.t 29), none⟩])
  (.seq (.seq (.reg [⟨some 30, .faddr 0 (.t 12), none⟩,
    ⟨some 31, .load none (.t 30), none⟩])
  (.block 2 (.seq (.seq (.reg [⟨some 35, .bini .eql (.t 31) (.c (.int .i64 1)), none⟩,
    ⟨some 34, .mov (.t 35), none⟩])
  (.cond (.t 34) (.skip) (.reg [⟨some 36, .bini .eql (.t 31) (.c (.int .i64 2)), none⟩,
    ⟨some 34, .mov (.t 36), none⟩])))
  (.cln [1, 2, 3, 4, 10, 11, 12, 31, 34] (.cond (.t 34) (.seq (.reg [⟨some 38, .load (some 9) (.t 4), none⟩,
    ⟨some 39, .mov (.t 1), none⟩,
    ⟨some 40, .faddr 9 (.t 12), none⟩,
    ⟨some 41, .load (some 5) (.t 40), none⟩,
    ⟨some 42, .call (.c (.fn 108 [] [])) [.t 38, .t 39, .t 41], none⟩,
    ⟨some 37, .mov (.t 42), none⟩,
    ⟨some 43, .extract (.t 37) 0, none⟩,
    ⟨some 44, .extract (.t 37) 1, none⟩,
    ⟨some 13, .alloc 1 (.agg [.int .i64 0, .str []]), none⟩,
    ⟨none, .store (some 2) (.t 13) (.t 43), none⟩,
    ⟨some 14, .mov (.t 44), none⟩])
  (.regd [⟨0, ⟨some 45, .mov (.t 10), none⟩, false, [], []⟩,
    ⟨1, ⟨some 46, .load (some 9) (.t 4), none⟩, false, [], []⟩,
    ⟨2, ⟨some 47, .load (some 2) (.t 13), none⟩, false, [], []⟩,
    ⟨4, ⟨some 49, .load (some 9) (.t 4), none⟩, false, [], []⟩,
    ⟨5, ⟨some 50, .mov (.t 1), none⟩, false, [], []⟩,
    ⟨6, ⟨some 51, .mov (.t 2), none⟩, false, [], []⟩,
    ⟨7, ⟨some 52, .faddr 9 (.t 12), none⟩, false, [], []⟩,
    ⟨8, ⟨some 53, .load (some 5) (.t 52), none⟩, false, [7], []⟩,
    ⟨3, ⟨some 48, .call (.c (.fn 109 [] [])) [.t 46, .t 47], none⟩, true, [1, 2], [4, 7, 8]⟩,
    ⟨9, ⟨some 54, .call (.c (.fn 73 [] [])) [.t 49, .t 50, .t 51, .t 53], none⟩, true, [1, 2, 3, 4, 5, 6, 7, 8], []⟩,
    ⟨10, ⟨some 55, .call (.c (.fn 72 [] [])) [.t 48, .t 54], none⟩, true, [1, 2, 3, 4, 5, 6, 7, 8, 9], []⟩,
    ⟨11, ⟨some 56, .call (.c (.fn 72 [] [])) [.t 45, .t 55], none⟩, true, .range 11, []⟩,
    ⟨12, ⟨some 10, .mov (.t 56), none⟩, true, .range 12, []⟩] (.range 13) 57)) (.seq (.reg [⟨some 58, .bini .eql (.t 31) (.c (.int .i64 3)), none⟩,
    ⟨some 57, .mov (.t 58), none⟩])
  (.cond (.t 57) (.reg [⟨some 59, .mov (.t 10), none⟩,
    ⟨some 60, .load (some 9) (.t 4), none⟩,
    ⟨some 61, .mov (.t 1), none⟩,
    ⟨some 62, .mov (.t 2), none⟩,
    ⟨some 63, .faddr 9 (.t 12), none⟩,
    ⟨some 64, .load (some 5) (.t 63), none⟩,
    ⟨some 65, .call (.c (.fn 73 [] [])) [.t 60, .t 61, .t 62, .t 64], none⟩,
    ⟨some 66, .call (.c (.fn 72 [] [])) [.c (.int .i64 1), .t 65], none⟩,
    ⟨some 67, .call (.c (.fn 72 [] [])) [.t 59, .t 66], none⟩,
    ⟨some 10, .mov (.t 67), none⟩]) (.reg [⟨some 32, .mov (.t 10), none⟩,
    ⟨some 33, .call (.c (.fn 72 [] [])) [.t 32, .c (.int .i64 1)], none⟩,
    ⟨some 10, .mov (.t 33), none⟩]))))))))
  (.cln [1, 2, 3, 4, 10, 11, 12] (.seq (.seq (.reg [⟨some 68, .faddr 0 (.t 12), none⟩,
    ⟨some 69, .load none (.t 68), none⟩,
    ⟨some 70, .bini .eql (.t 69) (.c (.int .i64 2)), none⟩])
  (.cond (.t 70) (.reg [⟨some 71, .mov (.t 10), none⟩,
    ⟨some 72, .load (some 9) (.t 4), none⟩,
    ⟨some 73, .mov (.t 1), none⟩,
    ⟨some 74, .mov (.t 2), none⟩,
    ⟨some 75, .faddr 4 (.t 12), none⟩,
    ⟨some 76, .load (some 5) (.t 75), none⟩,
    ⟨some 77, .call (.c (.fn 73 [] [])) [.t 72, .t 73, .t 74, .t 76], none⟩,
    ⟨some 78, .call (.c (.fn 72 [] [])) [.t 71, .t 77], none⟩,
    ⟨some 10, .mov (.t 78), none⟩]) (.skip)))
  (.cln [1, 2, 3, 4, 10, 11, 12] (.seq (.seq (.reg [⟨some 79, .faddr 0 (.t 12), none⟩,
    ⟨some 80, .load none (.t 79), none⟩,
    ⟨some 81, .bini .neq (.t 80) (.c (.int .i64 1)), none⟩,
    ⟨some 82, .mov (.t 81), none⟩,
    ⟨some 83, .faddr 0 (.t 12), some (82, true)⟩,
    ⟨some 84, .load none (.t 83), some (82, true)⟩,
    ⟨some 85, .bini .neq (.t 84) (.c (.int .i64 2)), some (82, true)⟩,
    ⟨some 86, .pick (.t 82) (.t 85) (.c (.bool false)), none⟩])
  (.cond (.t 86) (.seq (.reg [⟨some 88, .load (some 9) (.t 4), none⟩,
    ⟨some 89, .mov (.t 1), none⟩,
    ⟨some 90, .mov (.t 2), none⟩,
    ⟨some 91, .faddr 15 (.t 12), none⟩,
    ⟨some 92, .load none (.t 91), none⟩,
    ⟨some 93, .call (.c (.fn 71 [] [])) [.t 88, .t 89, .t 90, .t 92], none⟩,
    ⟨some 87, .mov (.t 93), none⟩,
    ⟨some 94, .extract (.t 87) 0, none⟩,
    ⟨some 95, .extract (.t 87) 1, none⟩,
    ⟨some 15, .mov (.t 94), none⟩,
    ⟨some 16, .mov (.t 95), none⟩])
  (.seq (.reg [⟨some 97, .load (some 9) (.t 4), none⟩,
    ⟨some 98, .mov (.t 1), none⟩,
    ⟨some 99, .mov (.t 2), none⟩,
    ⟨some 100, .faddr 16 (.t 12), none⟩,
    ⟨some 101, .load none (.t 100), none⟩,
    ⟨some 102, .call (.c (.fn 71 [] [])) [.t 97, .t 98, .t 99, .t 101], none⟩,
    ⟨some 96, .mov (.t 102), none⟩,
    ⟨some 103, .extract (.t 96) 0, none⟩,
    ⟨some 104, .extract (.t 96) 1, none⟩,
    ⟨some 17, .mov (.t 103), none⟩,
    ⟨some 18, .mov (.t 104), none⟩])
  (.reg [⟨some 105, .mov (.t 10), none⟩,
    ⟨some 106, .mov (.t 15), none⟩,
    ⟨some 107, .mov (.t 17), none⟩,
    ⟨some 108, .call (.c (.fn 72 [] [])) [.t 106, .t 107], none⟩,
    ⟨some 109, .call (.c (.fn 72 [] [])) [.t 105, .t 108], none⟩,
    ⟨some 10, .mov (.t 109), none⟩]))) (.skip)))
  (.cln [1, 2, 3, 4, 10, 11, 12] (.seq (.reg [⟨some 110, .faddr 0 (.t 12), none⟩,
    ⟨some 111, .load none (.t 110), none⟩,
    ⟨some 112, .bini .eql (.t 111) (.c (.int .i64 1)), none⟩])
  (.cond (.t 112) (.seq (.reg [⟨some 19, .vec 2 true 3, none⟩])
  (.seq (.reg [⟨some 113, .mov (.t 19), none⟩,
    ⟨some 114, .mov (.t 1), none⟩,
    ⟨some 115, .append 3 true 3 40 (.t 113) (.t 114), none⟩,
    ⟨some 19, .mov (.t 115), none⟩])
  (.reg [⟨some 116, .mov (.t 19), none⟩,
    ⟨some 117, .faddr 1 (.t 12), none⟩,
    ⟨some 118, .load none (.t 117), none⟩,
    ⟨some 119, .faddr 2 (.t 12), none⟩,
    ⟨some 120, .load (some 2) (.t 119), none⟩,
    ⟨some 121, .build [.str [], .int .i64 0, .str []] [(0, 1, .t 118), (1, 2, .t 120)], none⟩,
    ⟨some 122, .bsl [.agg [.str [], .int .i64 0, .str []]] [(0, .t 121)], none⟩,
    ⟨some 123, .append 4 true 3 40 (.t 116) (.t 122), none⟩,
    ⟨some 1, .mov (.t 123), none⟩]))) (.skip)))))))))))
  (.cln [1, 2, 3, 4, 10, 11] (.reg [⟨some 24, .mov (.t 11), none⟩,
    ⟨some 25, .bini .add (.t 24) (.c (.int .i64 1)), none⟩,
    ⟨some 11, .mov (.t 25), none⟩]))))))
/-- frustum/frustumref20.blockWeight -/
def p71 : PFn := { nparams := 4, ntmps := 126, nobjs := 5, pure := true, keep := false, results := [⟨8, none⟩, ⟨9, none⟩], body := (.cln (List.range 4) (.seq (.reg [⟨some 4, .boxi (.t 0), none⟩,
    ⟨some 8, .mov (.c (.int .i64 0)), none⟩,
    ⟨some 9, .mov (.c (.vs .nil [])), none⟩])
  (.seq (.reg [⟨some 10, .mov (.c (.int .i64 0)), none⟩])
  (.seq (.seq (.reg [⟨some 11, .mov (.c (.int .i64 0)), none⟩])
  (.block 0 (p71l0)))
  (.cln [1, 10] (.seq (.reg [⟨some 124, .mov (.t 10), none⟩,
    ⟨some 125, .frz (.t 1), none⟩,
    ⟨some 8, .mov (.t 124), none⟩,
    ⟨some 9, .mov (.t 125), none⟩])
  (.ret))))))) }
def p43l0 : PC := .loop (.cln [1, 3, 4] (.seq (.seq (.reg [⟨some 11, .mov (.t 4), none⟩,
    ⟨some 12, .faddr 7 (.t 1), none⟩,
    ⟨some 13, .load none (.t 12), none⟩,
    ⟨some 14, .lenl (.t 13), none⟩,
    ⟨some 15, .bini .lss (.t 11) (.t 14), none⟩])
  (.cond (.t 15) (.skip) (.exit 0)))
  (.cln [1, 3, 4] (.seq (.block 1 (.seq (.reg [⟨some 18, .faddr 7 (.t 1), none⟩,
    ⟨some 19, .load none (.t 18), none⟩,
    ⟨some 20, .mov (.t 4), none⟩,
    ⟨some 21, .iaddr 10 (.t 19) (.t 20), none⟩,
    ⟨some 22, .load (some 10) (.t 21), none⟩,
    ⟨some 5, .alloc 1 (.agg [.str [], .vs .nil [], .int .i64 0, .str [], .vs .nil [], .int .i64 0, .int .i64 0, .str [], .int .i64 0, .vs .nil []]), none⟩,
    ⟨none, .store (some 10) (.t 5) (.t 22), none⟩])
  (.seq (.reg [⟨some 23, .load (some 9) (.t 1), none⟩,
    ⟨some 24, .mov (.t 4), none⟩,
    ⟨some 25, .call (.c (.fn 70 [] [])) [.t 23, .t 24], none⟩,
    ⟨some 6, .alloc 2 (.agg [.int .i64 0, .vs .nil [], .vs .nil [], .vs .nil [], .vs .nil [], .vs .nil [], .vs .nil [], .vs .nil [], .vs .nil []]), none⟩,
    ⟨none, .store (some 9) (.t 6) (.t 25), none⟩])
  (.seq (.reg [⟨some 27, .load (some 9) (.t 6), none⟩,
    ⟨some 28, .faddr 1 (.t 5), none⟩,
    ⟨some 29, .load none (.t 28), none⟩,
    ⟨some 30, .mov (.t 3), none⟩,
    ⟨some 31, .faddr 4 (.t 5), none⟩,
    ⟨some 32, .load none (.t 31), none⟩,
    ⟨some 33, .call (.c (.fn 71 [] [])) [.t 27, .t 29, .t 30, .t 32], none⟩,
    ⟨some 26, .mov (.t 33), none⟩,
    ⟨some 34, .extract (.t 26) 0, none⟩,
    ⟨some 35, .extract (.t 26) 1, none⟩,
    ⟨some 7, .mov (.t 34), none⟩,
    ⟨some 8, .mov (.t 35), none⟩])
  (.reg [⟨some 36, .mov (.t 3), none⟩,
    ⟨some 37, .mov (.t 7), none⟩,
    ⟨some 38, .load (some 9) (.t 6), none⟩,
    ⟨some 39, .mov (.t 8), none⟩,
    ⟨some 40, .mov (.t 3), none⟩,
    ⟨some 41, .faddr 5 (.t 5), none⟩,
    ⟨some 42, .load (some 5) (.t 41), none⟩,
    ⟨some 43, .call (.c (.fn 73 [] [])) [.t 38, .t 39, .t 40, .t 42], none⟩,
    ⟨some 44, .call (.c (.fn 72 [] [])) [.t 37, .t 43], none⟩,
    ⟨some 45, .bsl [.int .i64 0] [(0, .t 44)], none⟩,
    ⟨some 46, .append 3 true 1 8 (.t 36) (.t 45), none⟩,
    ⟨some 3, .mov (.t 46), none⟩])))))
  (.cln [1, 3, 4] (.reg [⟨some 16, .mov (.t 4), none⟩,
    ⟨some 17, .bini .add (.t 16) (.c (.int .i64 1)), none⟩,
    ⟨some 4, .mov (.t 17), none⟩]))))))
/-- frustum/frustumref20.Weight -/
def p43 : PFn := { nparams := 1, ntmps := 56, nobjs := 4, pure := true, keep := false, results := [⟨2, none⟩], body := (.cln (List.range 1) (.seq (.reg [⟨some 1, .boxi (.t 0), none⟩,
    ⟨some 2, .mov (.c (.int .i64 0)), none⟩])
  (.seq (.reg [⟨some 3, .vec 0 true 1, none⟩])
  (.seq (.seq (.reg [⟨some 4, .mov (.c (.int .i64 0)), none⟩])
  (.block 0 (p43l0)))
  (.cln [1, 3] (.seq (.reg [⟨some 48, .load (some 9) (.t 1), none⟩,
    ⟨some 49, .mov (.t 3), none⟩,
    ⟨some 50, .faddr 8 (.t 1), none⟩,
    ⟨some 51, .load none (.t 50), none⟩,
    ⟨some 52, .call (.c (.fn 71 [] [])) [.t 48, .c (.vs .nil []), .t 49, .t 51], none⟩,
    ⟨some 47, .mov (.t 52), none⟩,
    ⟨some 53, .extract (.t 47) 0, none⟩,
    ⟨some 54, .extract (.t 47) 1, none⟩,
    ⟨some 9, .mov (.t 53), none⟩,
    ⟨some 10, .mov (.t 54), none⟩])
  (.seq (.reg [⟨some 55, .mov (.t 9), none⟩,
    ⟨some 2, .mov (.t 55), none⟩])
  (.ret)))))))) }
/-- frustum/frustumref20.Check -/
def p23 : PFn := { nparams := 1, ntmps := 12, nobjs := 0, pure := true, keep := false, results := [⟨2, none⟩], body := (.cln (List.range 1) (.seq (.reg [⟨some 1, .boxi (.t 0), none⟩,
    ⟨some 2, .mov (.c (.int .i64 0)), none⟩])
  (.seq (.seq (.reg [⟨some 4, .load (some 9) (.t 1), none⟩,
    ⟨some 5, .call (.c (.fn 42 [] [])) [.t 4], none⟩,
    ⟨some 3, .mov (.t 5), none⟩])
  (.seq (.reg [⟨some 6, .mov (.t 3), none⟩,
    ⟨some 7, .bini .neq (.t 6) (.c (.int .i64 0)), none⟩])
  (.cond (.t 7) (.seq (.reg [⟨some 8, .mov (.t 3), none⟩,
    ⟨some 2, .mov (.t 8), none⟩])
  (.ret)) (.skip))))
  (.cln [1] (.seq (.seq (.reg [⟨some 9, .load (some 9) (.t 1), none⟩,
    ⟨some 10, .call (.c (.fn 43 [] [])) [.t 9], none⟩,
    ⟨some 11, .bini .gtr (.t 10) (.c (.int .i64 512)), none⟩])
  (.cond (.t 11) (.seq (.reg [⟨some 2, .mov (.c (.int .i64 5)), none⟩])
  (.ret)) (.skip)))
  (.cln [] (.seq (.reg [⟨some 2, .mov (.c (.int .i64 0)), none⟩])
  (.ret)))))))) }
/-- frustum/frustumref28.vec4 -/
def p24 : PFn := { nparams := 1, ntmps := 16, nobjs := 0, pure := true, keep := false, results := [⟨2, none⟩], body := (.cln (List.range 1) (.seq (.reg [⟨some 1, .boxi (.t 0), none⟩,
    ⟨some 2, .mov (.c (.bool false)), none⟩])
  (.seq (.reg [⟨some 3, .faddr 6 (.t 1), none⟩,
    ⟨some 4, .load none (.t 3), none⟩,
    ⟨some 5, .lenl (.t 4), none⟩,
    ⟨some 6, .bini .gtr (.t 5) (.c (.int .i64 0)), none⟩,
    ⟨some 7, .mov (.t 6), none⟩,
    ⟨some 8, .faddr 6 (.t 1), some (7, true)⟩,
    ⟨some 9, .load none (.t 8), some (7, true)⟩,
    ⟨some 10, .iaddr 3 (.t 9) (.c (.int .i64 0)), some (7, true)⟩,
    ⟨some 11, .faddr 1 (.t 10), some (7, true)⟩,
    ⟨some 12, .load (some 2) (.t 11), some (7, true)⟩,
    ⟨some 13, .build [.int .i64 0, .str []] [(0, 1, .c (.int .i64 7))], some (7, true)⟩,
    ⟨some 14, .eq false (.parts [(0, 1, .ei), (1, 1, .es)]) (.t 12) (.t 13), some (7, true)⟩,
    ⟨some 15, .pick (.t 7) (.t 14) (.c (.bool false)), none⟩,
    ⟨some 2, .mov (.t 15), none⟩])
  (.ret)))) }
def p25l1 : PC := .loop (.cln [1, 3, 4, 5, 6] (.seq (.seq (.reg [⟨some 13, .mov (.t 6), none⟩,
    ⟨some 14, .faddr 6 (.t 1), none⟩,
    ⟨some 15, .load none (.t 14), none⟩,
    ⟨some 16, .lenl (.t 15), none⟩,
    ⟨some 17, .bini .lss (.t 13) (.t 16), none⟩])
  (.cond (.t 17) (.skip) (.exit 2)))
  (.cln [1, 3, 4, 5, 6] (.seq (.block 3 (.seq (.reg [⟨some 20, .faddr 6 (.t 1), none⟩,
    ⟨some 21, .load none (.t 20), none⟩,
    ⟨some 22, .mov (.t 6), none⟩,
    ⟨some 23, .iaddr 3 (.t 21) (.t 22), none⟩,
    ⟨some 24, .load (some 3) (.t 23), none⟩,
    ⟨some 7, .alloc 1 (.agg [.str [], .int .i64 0, .str []]), none⟩,
    ⟨none, .store (some 3) (.t 7) (.t 24), none⟩])
  (.regd [⟨0, ⟨some 25, .mov (.t 4), none⟩, false, [], []⟩,
    ⟨1, ⟨some 26, .faddr 0 (.t 7), none⟩, false, [], []⟩,
    ⟨2, ⟨some 27, .load none (.t 26), none⟩, false, [1], []⟩,
    ⟨3, ⟨some 28, .mov (.t 3), none⟩, false, [], []⟩,
    ⟨4, ⟨some 29, .mov (.t 5), none⟩, false, [], []⟩,
    ⟨5, ⟨some 30, .iaddr 1 (.t 28) (.t 29), none⟩, false, [3, 4], []⟩,
    ⟨6, ⟨some 31, .load none (.t 30), none⟩, false, [3, 4, 5], []⟩,
    ⟨7, ⟨some 32, .bins .add (.t 27) (.t 31), none⟩, false, [1, 2, 3, 4, 5, 6], []⟩,
    ⟨8, ⟨some 33, .faddr 1 (.t 7), none⟩, false, [], []⟩,
    ⟨9, ⟨some 34, .load (some 2) (.t 33), none⟩, false, [8], []⟩,
    ⟨10, ⟨some 35, .build [.str [], .int .i64 0, .str []] [(0, 1, .t 32), (1, 2, .t 34)], none⟩, false, [1, 2, 3, 4, 5, 6, 7, 8, 9], []⟩,
    ⟨11, ⟨some 36, .bsl [.agg [.str [], .int .i64 0, .str []]] [(0, .t 35)], none⟩, false, [1, 2, 3, 4, 5, 6, 7, 8, 9, 10], []⟩,
    ⟨12, ⟨some 37, .append 2 true 3 40 (.t 25) (.t 36), none⟩, true, .range 12, []⟩,
    ⟨13, ⟨some 4, .mov (.t 37), none⟩, true, .range 13, []⟩] (.range 14) 38)))
  (.cln [1, 3, 4, 5, 6] (.reg [⟨some 18, .mov (.t 6), none⟩,
    ⟨some 19, .bini .add (.t 18) (.c (.int .i64 1)), none⟩,
    ⟨some 6, .mov (.t 19), none⟩]))))))
def p25l0 : PC := .loop (.cln [1, 3, 4, 5] (.seq (.seq (.reg [⟨some 9, .mov (.t 5), none⟩,
    ⟨some 10, .bini .lss (.t 9) (.c (.int .i64 3)), none⟩])
  (.cond (.t 10) (.skip) (.exit 0)))
  (.cln [1, 3, 4, 5] (.seq (.block 1 (.seq (.reg [⟨some 6, .mov (.c (.int .i64 0)), none⟩])
  (.block 2 (p25l1))))
  (.cln [1, 3, 4, 5] (.reg [⟨some 11, .mov (.t 5), none⟩,
    ⟨some 12, .bini .add (.t 11) (.c (.int .i64 1)), none⟩,
    ⟨some 5, .mov (.t 12), none⟩]))))))
/-- frustum/frustumref28.GeometryInputs -/
def p25 : PFn := { nparams := 1, ntmps := 39, nobjs := 3, pure := true, keep := false, results := [⟨2, none⟩], body := (.cln (List.range 1) (.seq (.reg [⟨some 1, .boxi (.t 0), none⟩,
    ⟨some 2, .mov (.c (.vs .nil [])), none⟩])
  (.seq (.reg [⟨some 8, .bsl [.str [], .str [], .str []] [(0, .c (.str [48])), (1, .c (.str [49])), (2, .c (.str [50]))], none⟩,
    ⟨some 3, .mov (.t 8), none⟩])
  (.seq (.reg [⟨some 4, .vec 0 true 3, none⟩])
  (.seq (.seq (.reg [⟨some 5, .mov (.c (.int .i64 0)), none⟩])
  (.block 0 (p25l0)))
  (.cln [4] (.seq (.reg [⟨some 38, .frz (.t 4), none⟩,
    ⟨some 2, .mov (.t 38), none⟩])
  (.ret)))))))) }
def p26l0 : PC := .loop (.cln [1, 3, 4] (.seq (.seq (.reg [⟨some 5, .mov (.t 4), none⟩,
    ⟨some 6, .faddr 6 (.t 1), none⟩,
    ⟨some 7, .load none (.t 6), none⟩,
    ⟨some 8, .lenl (.t 7), none⟩,
    ⟨some 9, .bini .lss (.t 5) (.t 8), none⟩])
  (.cond (.t 9) (.skip) (.exit 0)))
  (.cln [1, 3, 4] (.seq (.block 1 (.reg [⟨some 12, .mov (.t 3), none⟩,
    ⟨some 13, .faddr 6 (.t 1), none⟩,
    ⟨some 14, .load none (.t 13), none⟩,
    ⟨some 15, .mov (.t 4), none⟩,
    ⟨some 16, .iaddr 3 (.t 14) (.t 15), none⟩,
    ⟨some 17, .load (some 3) (.t 16), none⟩,
    ⟨some 18, .bsl [.agg [.str [], .int .i64 0, .str []]] [(0, .t 17)], none⟩,
    ⟨some 19, .append 1 true 3 40 (.t 12) (.t 18), none⟩,
    ⟨some 3, .mov (.t 19), none⟩]))
  (.cln [1, 3, 4] (.reg [⟨some 10, .mov (.t 4), none⟩,
    ⟨some 11, .bini .add (.t 10) (.c (.int .i64 1)), none⟩,
    ⟨some 4, .mov (.t 11), none⟩]))))))
/-- frustum/frustumref28.Varyings -/
def p26 : PFn := { nparams := 1, ntmps := 21, nobjs := 2, pure := true, keep := false, results := [⟨2, none⟩], body := (.cln (List.range 1) (.seq (.reg [⟨some 1, .boxi (.t 0), none⟩,
    ⟨some 2, .mov (.c (.vs .nil [])), none⟩])
  (.seq (.reg [⟨some 3, .vec 0 true 3, none⟩])
  (.seq (.seq (.reg [⟨some 4, .mov (.c (.int .i64 1)), none⟩])
  (.block 0 (p26l0)))
  (.cln [3] (.seq (.reg [⟨some 20, .frz (.t 3), none⟩,
    ⟨some 2, .mov (.t 20), none⟩])
  (.ret))))))) }
/-- frustum/frustumref28.sameType -/
def p74 : PFn := { nparams := 5, ntmps := 55, nobjs := 0, pure := true, keep := false, results := [⟨10, none⟩], body := (.cln (List.range 5) (.seq (.reg [⟨some 5, .boxi (.t 0), none⟩,
    ⟨some 6, .boxi (.t 1), none⟩,
    ⟨some 7, .boxi (.t 2), none⟩,
    ⟨some 8, .boxi (.t 3), none⟩,
    ⟨some 10, .mov (.c (.bool false)), none⟩])
  (.seq (.seq (.reg [⟨some 13, .load (some 2) (.t 7), none⟩,
    ⟨some 14, .load (some 2) (.t 8), none⟩,
    ⟨some 15, .eq true (.parts [(0, 1, .ei), (1, 1, .es)]) (.t 13) (.t 14), none⟩])
  (.cond (.t 15) (.seq (.reg [⟨some 10, .mov (.c (.bool false)), none⟩])
  (.ret)) (.skip)))
  (.cln [4, 5, 6, 7] (.seq (.seq (.reg [⟨some 16, .faddr 0 (.t 7), none⟩,
    ⟨some 17, .load none (.t 16), none⟩,
    ⟨some 18, .bini .neq (.t 17) (.c (.int .i64 8)), none⟩])
  (.cond (.t 18) (.seq (.reg [⟨some 10, .mov (.c (.bool true)), none⟩])
  (.ret)) (.skip)))
  (.cln [4, 5, 6, 7] (.seq (.regd [⟨0, ⟨some 19, .load (some 9) (.t 5), none⟩, false, [], []⟩,
    ⟨1, ⟨some 20, .faddr 1 (.t 7), none⟩, false, [], []⟩,
    ⟨2, ⟨some 21, .load none (.t 20), none⟩, false, [1], []⟩,
    ⟨4, ⟨some 23, .load (some 9) (.t 6), none⟩, false, [], []⟩,
    ⟨5, ⟨some 24, .faddr 1 (.t 7), none⟩, false, [], []⟩,
    ⟨6, ⟨some 25, .load none (.t 24), none⟩, false, [5], []⟩,
    ⟨3, ⟨some 22, .call (.c (.fn 100 [] [])) [.t 19, .t 21], none⟩, true, [0, 1, 2], [4, 5, 6]⟩,
    ⟨7, ⟨some 26, .call (.c (.fn 100 [] [])) [.t 23, .t 25], none⟩, true, .range 7, []⟩,
    ⟨8, ⟨some 11, .mov (.t 22), none⟩, false, .range 8, []⟩,
    ⟨9, ⟨some 12, .mov (.t 26), none⟩, false, .range 9, []⟩] (.range 10) 27)
  (.seq (.seq (.reg [⟨some 27, .mov (.t 11), none⟩,
    ⟨some 28, .bini .lss (.t 27) (.c (.int .i64 0)), none⟩,
    ⟨some 29, .mov (.t 28), none⟩,
    ⟨some 30, .mov (.t 12), some (29, false)⟩,
    ⟨some 31, .bini .lss (.t 30) (.c (.int .i64 0)), some (29, false)⟩,
    ⟨some 32, .pick (.t 29) (.c (.bool true)) (.t 31), none⟩,
    ⟨some 33, .mov (.t 32), none⟩,
    ⟨some 34, .mov (.t 4), some (33, false)⟩,
    ⟨some 35, .bini .lss (.t 34) (.c (.int .i64 0)), some (33, false)⟩,
    ⟨some 36, .pick (.t 33) (.c (.bool true)) (.t 35), none⟩])
  (.cond (.t 36) (.seq (.reg [⟨some 10, .mov (.c (.bool false)), none⟩])
  (.ret)) (.skip)))
  (.cln [4, 5, 6, 11, 12] (.seq (.regd [⟨0, ⟨some 37, .load (some 9) (.t 5), none⟩, false, [], []⟩,
    ⟨1, ⟨some 38, .load (some 9) (.t 6), none⟩, false, [], []⟩,
    ⟨2, ⟨some 39, .faddr 1 (.t 5), none⟩, false, [], []⟩,
    ⟨3, ⟨some 40, .load none (.t 39), none⟩, false, [2], []⟩,
    ⟨4, ⟨some 41, .mov (.t 11), none⟩, false, [], []⟩,
    ⟨5, ⟨some 42, .iaddr 2 (.t 40) (.t 41), none⟩, false, [2, 3, 4], []⟩,
    ⟨6, ⟨some 43, .faddr 1 (.t 42), none⟩, false, [2, 3, 4, 5], []⟩,
    ⟨7, ⟨some 44, .load none (.t 43), none⟩, false, [2, 3, 4, 5, 6], []⟩,
    ⟨8, ⟨some 45, .faddr 1 (.t 6), none⟩, false, [], []⟩,
    ⟨9, ⟨some 46, .load none (.t 45), none⟩, false, [8], []⟩,
    ⟨10, ⟨some 47, .mov (.t 12), none⟩, false, [], []⟩,
    ⟨11, ⟨some 48, .iaddr 2 (.t 46) (.t 47), none⟩, false, [8, 9, 10], []⟩,
    ⟨12, ⟨some 49, .faddr 1 (.t 48), none⟩, false, [8, 9, 10, 11], []⟩,
    ⟨13, ⟨some 50, .load none (.t 49), none⟩, false, [8, 9, 10, 11, 12], []⟩,
    ⟨14, ⟨some 51, .mov (.t 4), none⟩, false, [], []⟩,
    ⟨15, ⟨some 52, .bini .sub (.t 51) (.c (.int .i64 1)), none⟩, false, [14], []⟩,
    ⟨16, ⟨some 53, .call (.c (.fn 44 [] [])) [.t 37, .t 38, .t 44, .t 50, .t 52], none⟩, true, .range 16, []⟩,
    ⟨17, ⟨some 54, .bini .lss (.t 53) (.c (.int .i64 0)), none⟩, false, .range 17, []⟩,
    ⟨18, ⟨some 10, .mov (.t 54), none⟩, false, .range 18, []⟩] (.range 19) 55)
  (.ret))))))))))) }
def p44l0 : PC := .loop (.cln [2, 3, 4, 5, 6, 11] (.seq (.seq (.reg [⟨some 12, .mov (.t 11), none⟩,
    ⟨some 13, .mov (.t 2), none⟩,
    ⟨some 14, .lenl (.t 13), none⟩,
    ⟨some 15, .bini .lss (.t 12) (.t 14), none⟩,
    ⟨some 16, .mov (.t 15), none⟩,
    ⟨some 17, .mov (.t 11), some (16, true)⟩,
    ⟨some 18, .mov (.t 3), some (16, true)⟩,
    ⟨some 19, .lenl (.t 18), some (16, true)⟩,
    ⟨some 20, .bini .lss (.t 17) (.t 19), some (16, true)⟩,
    ⟨some 21, .pick (.t 16) (.t 20) (.c (.bool false)), none⟩])
  (.cond (.t 21) (.skip) (.exit 0)))
  (.cln [2, 3, 4, 5, 6, 11] (.seq (.block 1 (.seq (.regd [⟨0, ⟨some 24, .mov (.t 2), none⟩, false, [], []⟩,
    ⟨1, ⟨some 25, .mov (.t 11), none⟩, false, [], []⟩,
    ⟨2, ⟨some 26, .iaddr 3 (.t 24) (.t 25), none⟩, false, [0, 1], []⟩,
    ⟨3, ⟨some 27, .faddr 0 (.t 26), none⟩, false, [0, 1, 2], []⟩,
    ⟨4, ⟨some 28, .load none (.t 27), none⟩, false, [0, 1, 2, 3], []⟩,
    ⟨5, ⟨some 29, .mov (.t 3), none⟩, false, [], []⟩,
    ⟨6, ⟨some 30, .mov (.t 11), none⟩, false, [], []⟩,
    ⟨7, ⟨some 31, .iaddr 3 (.t 29) (.t 30), none⟩, false, [5, 6], []⟩,
    ⟨8, ⟨some 32, .faddr 0 (.t 31), none⟩, false, [5, 6, 7], []⟩,
    ⟨9, ⟨some 33, .load none (.t 32), none⟩, false, [5, 6, 7, 8], []⟩,
    ⟨10, ⟨some 34, .bins .neq (.t 28) (.t 33), none⟩, false, .range 10, []⟩,
    ⟨11, ⟨some 35, .mov (.t 34), none⟩, false, .range 11, []⟩,
    ⟨12, ⟨some 36, .load (some 9) (.t 5), some (35, false)⟩, false, .range 12, []⟩,
    ⟨13, ⟨some 37, .load (some 9) (.t 6), some (35, false)⟩, false, .range 12, []⟩,
    ⟨14, ⟨some 38, .mov (.t 2), some (35, false)⟩, false, .range 12, []⟩,
    ⟨15, ⟨some 39, .mov (.t 11), some (35, false)⟩, false, .range 12, []⟩,
    ⟨16, ⟨some 40, .iaddr 3 (.t 38) (.t 39), some (35, false)⟩, false, (.range 12 ++ [14, 15]), []⟩,
    ⟨17, ⟨some 41, .faddr 1 (.t 40), some (35, false)⟩, false, (.range 12 ++ [14, 15, 16]), []⟩,
    ⟨18, ⟨some 42, .load (some 2) (.t 41), some (35, false)⟩, false, (.range 12 ++ [14, 15, 16, 17]), []⟩,
    ⟨19, ⟨some 43, .mov (.t 3), some (35, false)⟩, false, .range 12, []⟩,
    ⟨20, ⟨some 44, .mov (.t 11), some (35, false)⟩, false, .range 12, []⟩,
    ⟨21, ⟨some 45, .iaddr 3 (.t 43) (.t 44), some (35, false)⟩, false, (.range 12 ++ [19, 20]), []⟩,
    ⟨22, ⟨some 46, .faddr 1 (.t 45), some (35, false)⟩, false, (.range 12 ++ [19, 20, 21]), []⟩,
    ⟨23, ⟨some 47, .load (some 2) (.t 46), some (35, false)⟩, false, (.range 12 ++ [19, 20, 21, 22]), []⟩,
    ⟨24, ⟨some 48, .mov (.t 4), some (35, false)⟩, false, .range 12, []⟩,
    ⟨25, ⟨some 49, .call (.c (.fn 74 [] [])) [.t 36, .t 37, .t 42, .t 47, .t 48], some (35, false)⟩, true, .range 25, []⟩,
    ⟨26, ⟨some 50, .notb (.t 49), some (35, false)⟩, false, .range 26, []⟩,
    ⟨27, ⟨some 51, .pick (.t 35) (.c (.bool true)) (.t 50), none⟩, false, .range 27, []⟩] (.range 28) 52)
  (.cond (.t 51) (.seq (.reg [⟨some 52, .mov (.t 11), none⟩,
    ⟨some 10, .mov (.t 52), none⟩])
  (.ret)) (.skip))))
  (.cln [2, 3, 4, 5, 6, 11] (.reg [⟨some 22, .mov (.t 11), none⟩,
    ⟨some 23, .bini .add (.t 22) (.c (.int .i64 1)), none⟩,
    ⟨some 11, .mov (.t 23), none⟩]))))))
/-- frustum/frustumref28.firstDifference -/
def p44 : PFn := { nparams := 5, ntmps := 63, nobjs := 0, pure := true, keep := false, results := [⟨10, none⟩], body := (.cln (List.range 5) (.seq (.reg [⟨some 5, .boxi (.t 0), none⟩,
    ⟨some 6, .boxi (.t 1), none⟩,
    ⟨some 10, .mov (.c (.int .i64 0)), none⟩])
  (.seq (.seq (.reg [⟨some 11, .mov (.c (.int .i64 0)), none⟩])
  (.block 0 (p44l0)))
  (.cln [2, 3] (.seq (.seq (.reg [⟨some 53, .mov (.t 2), none⟩,
    ⟨some 54, .lenl (.t 53), none⟩,
    ⟨some 55, .mov (.t 3), none⟩,
    ⟨some 56, .lenl (.t 55), none⟩,
    ⟨some 57, .bini .neq (.t 54) (.t 56), none⟩])
  (.cond (.t 57) (.seq (.reg [⟨some 58, .mov (.t 2), none⟩,
    ⟨some 59, .lenl (.t 58), none⟩,
    ⟨some 60, .mov (.t 3), none⟩,
    ⟨some 61, .lenl (.t 60), none⟩,
    ⟨some 62, .mn (.t 59) [.t 61], none⟩,
    ⟨some 10, .mov (.t 62), none⟩])
  (.ret)) (.skip)))
  (.cln [] (.seq (.reg [⟨some 10, .mov (.c (.int .i64 (-1))), none⟩])
  (.ret)))))))) }
/-- frustum/frustumref28.EqualFields -/
def p27 : PFn := { nparams := 4, ntmps := 17, nobjs := 0, pure := true, keep := false, results := [⟨8, none⟩], body := (.cln (List.range 4) (.seq (.reg [⟨some 4, .boxi (.t 0), none⟩,
    ⟨some 5, .boxi (.t 1), none⟩,
    ⟨some 8, .mov (.c (.int .i64 0)), none⟩])
  (.seq (.reg [⟨some 9, .load (some 9) (.t 4), none⟩,
    ⟨some 10, .load (some 9) (.t 5), none⟩,
    ⟨some 11, .mov (.t 2), none⟩,
    ⟨some 12, .mov (.t 3), none⟩,
    ⟨some 13, .faddr 1 (.t 4), none⟩,
    ⟨some 14, .load none (.t 13), none⟩,
    ⟨some 15, .lenl (.t 14), none⟩,
    ⟨some 16, .call (.c (.fn 44 [] [])) [.t 9, .t 10, .t 11, .t 12, .t 15], none⟩,
    ⟨some 8, .mov (.t 16), none⟩])
  (.ret)))) }
/-- frustum/frustumref28.Check -/
def p11 : PFn := { nparams := 2, ntmps := 72, nobjs := 0, pure := true, keep := false, results := [⟨4, none⟩, ⟨5, none⟩], body := (.cln (List.range 2) (.seq (.reg [⟨some 2, .boxi (.t 0), none⟩,
    ⟨some 3, .boxi (.t 1), none⟩,
    ⟨some 4, .mov (.c (.int .i64 0)), none⟩,
    ⟨some 5, .mov (.c (.int .i64 0)), none⟩])
  (.seq (.seq (.reg [⟨some 10, .load (some 9) (.t 2), none⟩,
    ⟨some 11, .call (.c (.fn 23 [] [])) [.t 10], none⟩,
    ⟨some 12, .bini .neq (.t 11) (.c (.int .i64 0)), none⟩,
    ⟨some 13, .mov (.t 12), none⟩,
    ⟨some 14, .load (some 9) (.t 3), some (13, false)⟩,
    ⟨some 15, .call (.c (.fn 23 [] [])) [.t 14], some (13, false)⟩,
    ⟨some 16, .bini .neq (.t 15) (.c (.int .i64 0)), some (13, false)⟩,
    ⟨some 17, .pick (.t 13) (.c (.bool true)) (.t 16), none⟩])
  (.cond (.t 17) (.seq (.reg [⟨some 4, .mov (.c (.int .i64 (-1))), none⟩,
    ⟨some 5, .mov (.c (.int .i64 17)), none⟩])
  (.ret)) (.skip)))
  (.cln [2, 3] (.seq (.regd [⟨0, ⟨some 18, .faddr 0 (.t 2), none⟩, false, [], []⟩,
    ⟨1, ⟨some 19, .load none (.t 18), none⟩, false, [0], []⟩,
    ⟨2, ⟨some 20, .faddr 0 (.t 3), none⟩, false, [], []⟩,
    ⟨3, ⟨some 21, .load none (.t 20), none⟩, false, [2], []⟩,
    ⟨4, ⟨some 6, .mov (.t 19), none⟩, false, [0, 1], []⟩,
    ⟨5, ⟨some 7, .mov (.t 21), none⟩, false, .range 5, []⟩] ([0, 1, 4, 2, 3, 5]) 22)
  (.seq (.seq (.reg [⟨some 22, .mov (.t 6), none⟩,
    ⟨some 23, .bini .eql (.t 22) (.c (.int .i64 1)), none⟩,
    ⟨some 24, .mov (.t 23), none⟩,
    ⟨some 25, .mov (.t 7), some (24, true)⟩,
    ⟨some 26, .bini .neq (.t 25) (.c (.int .i64 1)), some (24, true)⟩,
    ⟨some 27, .pick (.t 24) (.t 26) (.c (.bool false)), none⟩,
    ⟨some 28, .mov (.t 27), none⟩,
    ⟨some 29, .mov (.t 6), some (28, false)⟩,
    ⟨some 30, .bini .eql (.t 29) (.c (.int .i64 2)), some (28, false)⟩,
    ⟨some 31, .mov (.t 30), some (28, false)⟩,
    ⟨some 32, .mov (.t 7), some (31, true)⟩,
    ⟨some 33, .bini .eql (.t 32) (.c (.int .i64 3)), some (31, true)⟩,
    ⟨some 34, .pick (.t 31) (.t 33) (.c (.bool false)), some (28, false)⟩,
    ⟨some 35, .pick (.t 28) (.c (.bool true)) (.t 34), none⟩,
    ⟨some 36, .notb (.t 35), none⟩])
  (.cond (.t 36) (.seq (.reg [⟨some 4, .mov (.c (.int .i64 (-1))), none⟩,
    ⟨some 5, .mov (.c (.int .i64 10)), none⟩])
  (.ret)) (.skip)))
  (.cln [2, 3, 7] (.seq (.seq (.reg [⟨some 37, .load (some 9) (.t 2), none⟩,
    ⟨some 38, .call (.c (.fn 24 [] [])) [.t 37], none⟩,
    ⟨some 39, .notb (.t 38), none⟩,
    ⟨some 40, .mov (.t 39), none⟩,
    ⟨some 41, .faddr 6 (.t 2), some (40, false)⟩,
    ⟨some 42, .load none (.t 41), some (40, false)⟩,
    ⟨some 43, .iaddr 3 (.t 42) (.c (.int .i64 0)), some (40, false)⟩,
    ⟨some 44, .faddr 0 (.t 43), some (40, false)⟩,
    ⟨some 45, .load none (.t 44), some (40, false)⟩,
    ⟨some 46, .bins .neq (.t 45) (.c (.str [112, 111, 115, 105, 116, 105, 111, 110])), some (40, false)⟩,
    ⟨some 47, .pick (.t 40) (.c (.bool true)) (.t 46), none⟩,
    ⟨some 48, .mov (.t 47), none⟩,
    ⟨some 49, .mov (.t 7), some (48, false)⟩,
    ⟨some 50, .bini .eql (.t 49) (.c (.int .i64 3)), some (48, false)⟩,
    ⟨some 51, .mov (.t 50), some (48, false)⟩,
    ⟨some 52, .load (some 9) (.t 3), some (51, true)⟩,
    ⟨some 53, .call (.c (.fn 24 [] [])) [.t 52], some (51, true)⟩,
    ⟨some 54, .notb (.t 53), some (51, true)⟩,
    ⟨some 55, .pick (.t 51) (.t 54) (.c (.bool false)), some (48, false)⟩,
    ⟨some 56, .pick (.t 48) (.c (.bool true)) (.t 55), none⟩])
  (.cond (.t 56) (.seq (.reg [⟨some 4, .mov (.c (.int .i64 (-1))), none⟩,
    ⟨some 5, .mov (.c (.int .i64 18)), none⟩])
  (.ret)) (.skip)))
  (.cln [2, 3, 7] (.seq (.reg [⟨some 57, .load (some 9) (.t 2), none⟩,
    ⟨some 58, .call (.c (.fn 25 [] [])) [.t 57], none⟩,
    ⟨some 8, .mov (.t 58), none⟩])
  (.seq (.seq (.reg [⟨some 59, .mov (.t 7), none⟩,
    ⟨some 60, .bini .eql (.t 59) (.c (.int .i64 3)), none⟩])
  (.cond (.t 60) (.reg [⟨some 61, .load (some 9) (.t 2), none⟩,
    ⟨some 62, .call (.c (.fn 26 [] [])) [.t 61], none⟩,
    ⟨some 8, .mov (.t 62), none⟩]) (.skip)))
  (.cln [2, 3, 8] (.seq (.seq (.reg [⟨some 63, .load (some 9) (.t 2), none⟩,
    ⟨some 64, .load (some 9) (.t 3), none⟩,
    ⟨some 65, .mov (.t 8), none⟩,
    ⟨some 66, .faddr 5 (.t 3), none⟩,
    ⟨some 67, .load none (.t 66), none⟩,
    ⟨some 68, .call (.c (.fn 27 [] [])) [.t 63, .t 64, .t 65, .t 67], none⟩,
    ⟨some 9, .mov (.t 68), none⟩])
  (.seq (.reg [⟨some 69, .mov (.t 9), none⟩,
    ⟨some 70, .bini .geq (.t 69) (.c (.int .i64 0)), none⟩])
  (.cond (.t 70) (.seq (.reg [⟨some 71, .mov (.t 9), none⟩,
    ⟨some 4, .mov (.t 71), none⟩,
    ⟨some 5, .mov (.c (.int .i64 18)), none⟩])
  (.ret)) (.skip))))
  (.cln [] (.seq (.reg [⟨some 4, .mov (.c (.int .i64 (-1))), none⟩,
    ⟨some 5, .mov (.c (.int .i64 0)), none⟩])
  (.ret)))))))))))))))) }
/-- frustum/frustumlaw28.LinkMatches -/
def p3 : PFn := { nparams := 1, ntmps := 38, nobjs := 0, pure := true, keep := false, results := [⟨2, none⟩], body := (.cln (List.range 1) (.seq (.reg [⟨some 1, .boxi (.t 0), none⟩,
    ⟨some 2, .mov (.c (.bool false)), none⟩])
  (.seq (.seq (.reg [⟨some 7, .load (some 18) (.t 1), none⟩,
    ⟨some 8, .call (.c (.fn 8 [] [])) [.t 7], none⟩,
    ⟨some 9, .notb (.t 8), none⟩])
  (.cond (.t 9) (.seq (.reg [⟨some 10, .call (.c (.fn 9 [] [])) [], none⟩,
    ⟨some 2, .mov (.t 10), none⟩])
  (.ret)) (.skip)))
  (.cln [1] (.seq (.reg [⟨some 12, .faddr 0 (.t 1), none⟩,
    ⟨some 13, .load (some 9) (.t 12), none⟩,
    ⟨some 14, .faddr 9 (.t 1), none⟩,
    ⟨some 15, .load (some 9) (.t 14), none⟩,
    ⟨some 16, .call (.c (.fn 10 [] [])) [.t 13, .t 15], none⟩,
    ⟨some 11, .mov (.t 16), none⟩,
    ⟨some 17, .extract (.t 11) 0, none⟩,
    ⟨some 18, .extract (.t 11) 1, none⟩,
    ⟨some 3, .mov (.t 17), none⟩,
    ⟨some 4, .mov (.t 18), none⟩])
  (.seq (.reg [⟨some 20, .faddr 0 (.t 1), none⟩,
    ⟨some 21, .load (some 9) (.t 20), none⟩,
    ⟨some 22, .faddr 9 (.t 1), none⟩,
    ⟨some 23, .load (some 9) (.t 22), none⟩,
    ⟨some 24, .call (.c (.fn 11 [] [])) [.t 21, .t 23], none⟩,
    ⟨some 19, .mov (.t 24), none⟩,
    ⟨some 25, .extract (.t 19) 0, none⟩,
    ⟨some 26, .extract (.t 19) 1, none⟩,
    ⟨some 5, .mov (.t 25), none⟩,
    ⟨some 6, .mov (.t 26), none⟩])
  (.seq (.reg [⟨some 27, .mov (.t 3), none⟩,
    ⟨some 28, .mov (.t 5), none⟩,
    ⟨some 29, .bini .eql (.t 27) (.t 28), none⟩,
    ⟨some 30, .mov (.t 29), none⟩,
    ⟨some 31, .mov (.t 4), some (30, true)⟩,
    ⟨some 32, .mov (.t 6), some (30, true)⟩,
    ⟨some 33, .bini .eql (.t 31) (.t 32), some (30, true)⟩,
    ⟨some 34, .pick (.t 30) (.t 33) (.c (.bool false)), none⟩,
    ⟨some 35, .mov (.t 34), none⟩,
    ⟨some 36, .call (.c (.fn 9 [] [])) [], some (35, true)⟩,
    ⟨some 37, .pick (.t 35) (.t 36) (.c (.bool false)), none⟩,
    ⟨some 2, .mov (.t 37), none⟩])
  (.ret)))))))) }
/-- frustum/frustumref28.Pipeline -/
def p14 : PFn := { nparams := 4, ntmps := 56, nobjs := 0, pure := true, keep := false, results := [⟨8, none⟩], body := (.cln (List.range 4) (.seq (.reg [⟨some 4, .boxi (.t 0), none⟩,
    ⟨some 5, .boxi (.t 1), none⟩,
    ⟨some 6, .boxi (.t 2), none⟩,
    ⟨some 8, .mov (.c (.int .i64 0)), none⟩])
  (.seq (.seq (.reg [⟨some 15, .faddr 0 (.t 4), none⟩,
    ⟨some 16, .load none (.t 15), none⟩,
    ⟨some 17, .bini .neq (.t 16) (.c (.int .i64 1)), none⟩,
    ⟨some 18, .mov (.t 17), none⟩,
    ⟨some 19, .faddr 0 (.t 6), some (18, false)⟩,
    ⟨some 20, .load none (.t 19), some (18, false)⟩,
    ⟨some 21, .bini .neq (.t 20) (.c (.int .i64 3)), some (18, false)⟩,
    ⟨some 22, .pick (.t 18) (.c (.bool true)) (.t 21), none⟩,
    ⟨some 23, .mov (.t 22), none⟩,
    ⟨some 24, .mov (.t 3), some (23, false)⟩,
    ⟨some 25, .mov (.t 24), some (23, false)⟩,
    ⟨some 26, .faddr 0 (.t 5), some (25, true)⟩,
    ⟨some 27, .load none (.t 26), some (25, true)⟩,
    ⟨some 28, .bini .neq (.t 27) (.c (.int .i64 2)), some (25, true)⟩,
    ⟨some 29, .pick (.t 25) (.t 28) (.c (.bool false)), some (23, false)⟩,
    ⟨some 30, .pick (.t 23) (.c (.bool true)) (.t 29), none⟩])
  (.cond (.t 30) (.seq (.reg [⟨some 8, .mov (.c (.int .i64 10)), none⟩])
  (.ret)) (.skip)))
  (.cln [3, 4, 5, 6] (.seq (.seq (.reg [⟨some 31, .mov (.t 3), none⟩,
    ⟨some 32, .notb (.t 31), none⟩])
  (.cond (.t 32) (.seq (.reg [⟨some 34, .load (some 9) (.t 4), none⟩,
    ⟨some 35, .load (some 9) (.t 6), none⟩,
    ⟨some 36, .call (.c (.fn 11 [] [])) [.t 34, .t 35], none⟩,
    ⟨some 33, .mov (.t 36), none⟩,
    ⟨some 37, .extract (.t 33) 0, none⟩,
    ⟨some 38, .extract (.t 33) 1, none⟩,
    ⟨some 9, .mov (.t 37), none⟩,
    ⟨some 10, .mov (.t 38), none⟩])
  (.seq (.reg [⟨some 39, .mov (.t 10), none⟩,
    ⟨some 8, .mov (.t 39), none⟩])
  (.ret))) (.skip)))
  (.cln [4, 5, 6] (.seq (.seq (.reg [⟨some 41, .load (some 9) (.t 4), none⟩,
    ⟨some 42, .load (some 9) (.t 5), none⟩,
    ⟨some 43, .call (.c (.fn 11 [] [])) [.t 41, .t 42], none⟩,
    ⟨some 40, .mov (.t 43), none⟩,
    ⟨some 44, .extract (.t 40) 0, none⟩,
    ⟨some 45, .extract (.t 40) 1, none⟩,
    ⟨some 11, .mov (.t 44), none⟩,
    ⟨some 12, .mov (.t 45), none⟩])
  (.seq (.reg [⟨some 46, .mov (.t 12), none⟩,
    ⟨some 47, .bini .neq (.t 46) (.c (.int .i64 0)), none⟩])
  (.cond (.t 47) (.seq (.reg [⟨some 48, .mov (.t 12), none⟩,
    ⟨some 8, .mov (.t 48), none⟩])
  (.ret)) (.skip))))
  (.cln [5, 6] (.seq (.reg [⟨some 50, .load (some 9) (.t 5), none⟩,
    ⟨some 51, .load (some 9) (.t 6), none⟩,
    ⟨some 52, .call (.c (.fn 11 [] [])) [.t 50, .t 51], none⟩,
    ⟨some 49, .mov (.t 52), none⟩,
    ⟨some 53, .extract (.t 49) 0, none⟩,
    ⟨some 54, .extract (.t 49) 1, none⟩,
    ⟨some 13, .mov (.t 53), none⟩,
    ⟨some 14, .mov (.t 54), none⟩])
  (.seq (.reg [⟨some 55, .mov (.t 14), none⟩,
    ⟨some 8, .mov (.t 55), none⟩])
  (.ret))))))))))) }
/-- frustum/frustumlaw28.LinkPipeline -/
def p4 : PFn := { nparams := 3, ntmps := 34, nobjs := 0, pure := true, keep := false, results := [⟨6, none⟩], body := (.cln (List.range 3) (.seq (.reg [⟨some 3, .boxi (.t 0), none⟩,
    ⟨some 4, .boxi (.t 1), none⟩,
    ⟨some 6, .mov (.c (.bool false)), none⟩])
  (.seq (.seq (.reg [⟨some 7, .load (some 18) (.t 3), none⟩,
    ⟨some 8, .call (.c (.fn 8 [] [])) [.t 7], none⟩,
    ⟨some 9, .notb (.t 8), none⟩,
    ⟨some 10, .mov (.t 9), none⟩,
    ⟨some 11, .load (some 9) (.t 4), some (10, false)⟩,
    ⟨some 12, .call (.c (.fn 12 [] [])) [.t 11, .c (.vs .nil [])], some (10, false)⟩,
    ⟨some 13, .notb (.t 12), some (10, false)⟩,
    ⟨some 14, .pick (.t 10) (.c (.bool true)) (.t 13), none⟩])
  (.cond (.t 14) (.seq (.reg [⟨some 15, .call (.c (.fn 9 [] [])) [], none⟩,
    ⟨some 6, .mov (.t 15), none⟩])
  (.ret)) (.skip)))
  (.cln [2, 3, 4] (.seq (.regd [⟨0, ⟨some 16, .faddr 0 (.t 3), none⟩, false, [], []⟩,
    ⟨1, ⟨some 17, .load (some 9) (.t 16), none⟩, false, [0], []⟩,
    ⟨2, ⟨some 18, .load (some 9) (.t 4), none⟩, false, [], []⟩,
    ⟨3, ⟨some 19, .faddr 9 (.t 3), none⟩, false, [], []⟩,
    ⟨4, ⟨some 20, .load (some 9) (.t 19), none⟩, false, [3], []⟩,
    ⟨5, ⟨some 21, .mov (.t 2), none⟩, false, [], []⟩,
    ⟨7, ⟨some 23, .faddr 0 (.t 3), none⟩, false, [], []⟩,
    ⟨8, ⟨some 24, .load (some 9) (.t 23), none⟩, false, [7], []⟩,
    ⟨9, ⟨some 25, .load (some 9) (.t 4), none⟩, false, [], []⟩,
    ⟨10, ⟨some 26, .faddr 9 (.t 3), none⟩, false, [], []⟩,
    ⟨11, ⟨some 27, .load (some 9) (.t 26), none⟩, false, [10], []⟩,
    ⟨12, ⟨some 28, .mov (.t 2), none⟩, false, [], []⟩,
    ⟨6, ⟨some 22, .call (.c (.fn 13 [] [])) [.t 17, .t 18, .t 20, .t 21], none⟩, true, .range 6, [7, 8, 9, 10, 11]⟩,
    ⟨13, ⟨some 29, .call (.c (.fn 14 [] [])) [.t 24, .t 25, .t 27, .t 28], none⟩, true, .range 13, []⟩,
    ⟨14, ⟨some 30, .bini .eql (.t 22) (.t 29), none⟩, false, .range 14, []⟩,
    ⟨15, ⟨some 31, .mov (.t 30), none⟩, false, .range 15, []⟩,
    ⟨16, ⟨some 32, .call (.c (.fn 9 [] [])) [], some (31, true)⟩, true, .range 16, []⟩,
    ⟨17, ⟨some 33, .pick (.t 31) (.t 32) (.c (.bool false)), none⟩, false, .range 17, []⟩,
    ⟨18, ⟨some 6, .mov (.t 33), none⟩, false, .range 18, []⟩] (.range 19) 34)
  (.ret)))))) }
/-- frustum/frustumlaw28.LinkComponents -/
def p5 : PFn := { nparams := 1, ntmps := 60, nobjs := 2, pure := true, keep := false, results := [⟨2, none⟩], body := (.cln (List.range 1) (.seq (.reg [⟨some 1, .boxi (.t 0), none⟩,
    ⟨some 2, .mov (.c (.bool false)), none⟩])
  (.seq (.regd [⟨0, ⟨some 9, .faddr 0 (.t 1), none⟩, false, [], []⟩,
    ⟨1, ⟨some 10, .load (some 9) (.t 9), none⟩, false, [0], []⟩,
    ⟨2, ⟨some 11, .faddr 9 (.t 1), none⟩, false, [], []⟩,
    ⟨3, ⟨some 12, .load (some 9) (.t 11), none⟩, false, [2], []⟩,
    ⟨4, ⟨some 3, .alloc 0 (.agg [.int .i64 0, .vs .nil [], .vs .nil [], .vs .nil [], .vs .nil [], .vs .nil [], .vs .nil [], .vs .nil [], .vs .nil []]), none⟩, false, [], []⟩,
    ⟨5, ⟨some 4, .alloc 1 (.agg [.int .i64 0, .vs .nil [], .vs .nil [], .vs .nil [], .vs .nil [], .vs .nil [], .vs .nil [], .vs .nil [], .vs .nil []]), none⟩, false, [], []⟩,
    ⟨6, ⟨none, .store (some 9) (.t 3) (.t 10), none⟩, true, [0, 1, 4, 5], [2, 3]⟩,
    ⟨7, ⟨none, .store (some 9) (.t 4) (.t 12), none⟩, true, .range 7, []⟩] ([0, 1, 4, 5, 6, 2, 3, 7]) 13)
  (.seq (.seq (.reg [⟨some 14, .load (some 9) (.t 3), none⟩,
    ⟨some 15, .load (some 9) (.t 4), none⟩,
    ⟨some 16, .call (.c (.fn 10 [] [])) [.t 14, .t 15], none⟩,
    ⟨some 13, .mov (.t 16), none⟩,
    ⟨some 17, .extract (.t 13) 0, none⟩,
    ⟨some 18, .extract (.t 13) 1, none⟩,
    ⟨some 5, .mov (.t 17), none⟩,
    ⟨some 6, .mov (.t 18), none⟩])
  (.seq (.reg [⟨some 19, .mov (.t 6), none⟩,
    ⟨some 20, .bini .neq (.t 19) (.c (.int .i64 0)), none⟩,
    ⟨some 21, .mov (.t 20), none⟩,
    ⟨some 22, .mov (.t 5), some (21, false)⟩,
    ⟨some 23, .bini .neq (.t 22) (.c (.int .i64 (-1))), some (21, false)⟩,
    ⟨some 24, .pick (.t 21) (.c (.bool true)) (.t 23), none⟩])
  (.cond (.t 24) (.seq (.reg [⟨some 25, .mov (.t 6), none⟩,
    ⟨some 26, .bini .neq (.t 25) (.c (.int .i64 0)), none⟩,
    ⟨some 27, .mov (.t 26), none⟩,
    ⟨some 28, .call (.c (.fn 9 [] [])) [], some (27, true)⟩,
    ⟨some 29, .pick (.t 27) (.t 28) (.c (.bool false)), none⟩,
    ⟨some 2, .mov (.t 29), none⟩])
  (.ret)) (.skip))))
  (.cln [3, 4] (.seq (.regd [⟨0, ⟨some 30, .load (some 9) (.t 3), none⟩, false, [], []⟩,
    ⟨1, ⟨some 31, .faddr 6 (.t 3), none⟩, false, [], []⟩,
    ⟨2, ⟨some 32, .load none (.t 31), none⟩, false, [1], []⟩,
    ⟨4, ⟨some 34, .load (some 9) (.t 4), none⟩, false, [], []⟩,
    ⟨5, ⟨some 35, .faddr 5 (.t 4), none⟩, false, [], []⟩,
    ⟨6, ⟨some 36, .load none (.t 35), none⟩, false, [5], []⟩,
    ⟨3, ⟨some 33, .call (.c (.fn 15 [] [])) [.t 30, .t 32], none⟩, true, [0, 1, 2], [4, 5, 6]⟩,
    ⟨7, ⟨some 37, .call (.c (.fn 15 [] [])) [.t 34, .t 36], none⟩, true, .range 7, []⟩,
    ⟨8, ⟨some 7, .mov (.t 33), none⟩, false, .range 8, []⟩,
    ⟨9, ⟨some 8, .mov (.t 37), none⟩, false, .range 9, []⟩] (.range 10) 38)
  (.seq (.seq (.reg [⟨some 38, .faddr 0 (.t 4), none⟩,
    ⟨some 39, .load none (.t 38), none⟩,
    ⟨some 40, .bini .eql (.t 39) (.c (.int .i64 3)), none⟩])
  (.cond (.t 40) (.seq (.reg [⟨some 41, .mov (.t 8), none⟩,
    ⟨some 42, .mov (.t 7), none⟩,
    ⟨some 43, .bini .sub (.t 42) (.c (.int .i64 4)), none⟩,
    ⟨some 44, .bini .eql (.t 41) (.t 43), none⟩,
    ⟨some 45, .mov (.t 44), none⟩,
    ⟨some 46, .call (.c (.fn 9 [] [])) [], some (45, true)⟩,
    ⟨some 47, .pick (.t 45) (.t 46) (.c (.bool false)), none⟩,
    ⟨some 2, .mov (.t 47), none⟩])
  (.ret)) (.skip)))
  (.cln [4, 7, 8] (.seq (.reg [⟨some 48, .faddr 0 (.t 4), none⟩,
    ⟨some 49, .load none (.t 48), none⟩,
    ⟨some 50, .bini .eql (.t 49) (.c (.int .i64 2)), none⟩,
    ⟨some 51, .mov (.t 50), none⟩,
    ⟨some 52, .mov (.t 8), some (51, true)⟩,
    ⟨some 53, .mov (.t 7), some (51, true)⟩,
    ⟨some 54, .bini .mul (.c (.int .i64 3)) (.t 53), some (51, true)⟩,
    ⟨some 55, .bini .eql (.t 52) (.t 54), some (51, true)⟩,
    ⟨some 56, .pick (.t 51) (.t 55) (.c (.bool false)), none⟩,
    ⟨some 57, .mov (.t 56), none⟩,
    ⟨some 58, .call (.c (.fn 9 [] [])) [], some (57, true)⟩,
    ⟨some 59, .pick (.t 57) (.t 58) (.c (.bool false)), none⟩,
    ⟨some 2, .mov (.t 59), none⟩])
  (.ret)))))))))) }
def p6l0 : PC := .loop (.cln [1, 2, 3, 7] (.seq (.seq (.reg [⟨some 12, .mov (.t 7), none⟩,
    ⟨some 13, .mov (.t 1), none⟩,
    ⟨some 14, .lenl (.t 13), none⟩,
    ⟨some 15, .bini .lss (.t 12) (.t 14), none⟩])
  (.cond (.t 15) (.skip) (.exit 0)))
  (.cln [1, 2, 3, 7] (.seq (.block 1 (.seq (.reg [⟨some 18, .mov (.t 1), none⟩,
    ⟨some 19, .mov (.t 7), none⟩,
    ⟨some 20, .iaddr 3 (.t 18) (.t 19), none⟩,
    ⟨some 21, .faddr 1 (.t 20), none⟩,
    ⟨some 22, .faddr 0 (.t 21), none⟩,
    ⟨some 23, .load none (.t 22), none⟩,
    ⟨some 24, .bini .eql (.t 23) (.c (.int .i64 8)), none⟩])
  (.cond (.t 24) (.seq (.reg [⟨some 25, .call (.c (.fn 9 [] [])) [], none⟩,
    ⟨some 6, .mov (.t 25), none⟩])
  (.ret)) (.skip))))
  (.cln [1, 2, 3, 7] (.reg [⟨some 16, .mov (.t 7), none⟩,
    ⟨some 17, .bini .add (.t 16) (.c (.int .i64 1)), none⟩,
    ⟨some 7, .mov (.t 17), none⟩]))))))
/-- frustum/frustumlaw28.LinkEqualFields -/
def p6 : PFn := { nparams := 3, ntmps := 113, nobjs := 5, pure := true, keep := false, results := [⟨6, none⟩], body := (.cln (List.range 3) (.seq (.reg [⟨some 3, .boxi (.t 0), none⟩,
    ⟨some 6, .mov (.c (.bool false)), none⟩])
  (.seq (.seq (.reg [⟨some 7, .mov (.c (.int .i64 0)), none⟩])
  (.block 0 (p6l0)))
  (.cln [1, 2, 3] (.seq (.regd [⟨0, ⟨some 26, .faddr 0 (.t 3), none⟩, false, [], []⟩,
    ⟨1, ⟨some 27, .load (some 9) (.t 26), none⟩, false, [0], []⟩,
    ⟨2, ⟨some 28, .faddr 9 (.t 3), none⟩, false, [], []⟩,
    ⟨3, ⟨some 29, .load (some 9) (.t 28), none⟩, false, [2], []⟩,
    ⟨4, ⟨some 8, .alloc 0 (.agg [.int .i64 0, .vs .nil [], .vs .nil [], .vs .nil [], .vs .nil [], .vs .nil [], .vs .nil [], .vs .nil [], .vs .nil []]), none⟩, false, [], []⟩,
    ⟨5, ⟨some 9, .alloc 1 (.agg [.int .i64 0, .vs .nil [], .vs .nil [], .vs .nil [], .vs .nil [], .vs .nil [], .vs .nil [], .vs .nil [], .vs .nil []]), none⟩, false, [], []⟩,
    ⟨6, ⟨none, .store (some 9) (.t 8) (.t 27), none⟩, true, [0, 1, 4, 5], [2, 3]⟩,
    ⟨7, ⟨none, .store (some 9) (.t 9) (.t 29), none⟩, true, .range 7, []⟩] ([0, 1, 4, 5, 6, 2, 3, 7]) 30)
  (.seq (.seq (.reg [⟨some 30, .load (some 9) (.t 8), none⟩,
    ⟨some 31, .load (some 9) (.t 9), none⟩,
    ⟨some 32, .mov (.t 1), none⟩,
    ⟨some 33, .mov (.t 1), none⟩,
    ⟨some 34, .call (.c (.fn 16 [] [])) [.t 30, .t 31, .t 32, .t 33], none⟩,
    ⟨some 35, .bini .neq (.t 34) (.c (.int .i64 (-1))), none⟩])
  (.cond (.t 35) (.seq (.reg [⟨some 6, .mov (.c (.bool false)), none⟩])
  (.ret)) (.skip)))
  (.cln [1, 2, 8, 9] (.seq (.seq (.reg [⟨some 36, .mov (.t 2), none⟩,
    ⟨some 37, .bini .lss (.t 36) (.c (.int .i64 0)), none⟩,
    ⟨some 38, .mov (.t 37), none⟩,
    ⟨some 39, .mov (.t 2), some (38, false)⟩,
    ⟨some 40, .mov (.t 1), some (38, false)⟩,
    ⟨some 41, .lenl (.t 40), some (38, false)⟩,
    ⟨some 42, .bini .geq (.t 39) (.t 41), some (38, false)⟩,
    ⟨some 43, .pick (.t 38) (.c (.bool true)) (.t 42), none⟩])
  (.cond (.t 43) (.seq (.reg [⟨some 44, .mov (.t 1), none⟩,
    ⟨some 45, .append 2 true 3 40 (.c (.vs .nil [])) (.t 44), none⟩,
    ⟨some 46, .build [.str [], .int .i64 0, .str []] [(0, 1, .c (.str [109, 111, 114, 101]))], none⟩,
    ⟨some 47, .bsl [.agg [.str [], .int .i64 0, .str []]] [(0, .t 46)], none⟩,
    ⟨some 48, .append 3 true 3 40 (.t 45) (.t 47), none⟩,
    ⟨some 10, .mov (.t 48), none⟩])
  (.seq (.reg [⟨some 49, .load (some 9) (.t 8), none⟩,
    ⟨some 50, .load (some 9) (.t 9), none⟩,
    ⟨some 51, .mov (.t 1), none⟩,
    ⟨some 52, .mov (.t 10), none⟩,
    ⟨some 53, .call (.c (.fn 16 [] [])) [.t 49, .t 50, .t 51, .t 52], none⟩,
    ⟨some 54, .mov (.t 1), none⟩,
    ⟨some 55, .lenl (.t 54), none⟩,
    ⟨some 56, .bini .eql (.t 53) (.t 55), none⟩,
    ⟨some 57, .mov (.t 56), none⟩,
    ⟨some 58, .load (some 9) (.t 9), some (57, true)⟩,
    ⟨some 59, .load (some 9) (.t 8), some (57, true)⟩,
    ⟨some 60, .mov (.t 10), some (57, true)⟩,
    ⟨some 61, .mov (.t 1), some (57, true)⟩,
    ⟨some 62, .call (.c (.fn 16 [] [])) [.t 58, .t 59, .t 60, .t 61], some (57, true)⟩,
    ⟨some 63, .mov (.t 1), some (57, true)⟩,
    ⟨some 64, .lenl (.t 63), some (57, true)⟩,
    ⟨some 65, .bini .eql (.t 62) (.t 64), some (57, true)⟩,
    ⟨some 66, .pick (.t 57) (.t 65) (.c (.bool false)), none⟩,
    ⟨some 67, .mov (.t 66), none⟩,
    ⟨some 68, .call (.c (.fn 9 [] [])) [], some (67, true)⟩,
    ⟨some 69, .pick (.t 67) (.t 68) (.c (.bool false)), none⟩,
    ⟨some 6, .mov (.t 69), none⟩])
  (.ret))) (.skip)))
  (.cln [1, 2, 8, 9] (.seq (.reg [⟨some 70, .mov (.t 1), none⟩,
    ⟨some 71, .append 4 true 3 40 (.c (.vs .nil [])) (.t 70), none⟩,
    ⟨some 11, .mov (.t 71), none⟩])
  (.seq (.reg [⟨some 72, .mov (.t 11), none⟩,
    ⟨some 73, .mov (.t 2), none⟩,
    ⟨some 74, .mov (.t 11), none⟩,
    ⟨some 75, .mov (.t 2), none⟩,
    ⟨some 76, .iaddr 3 (.t 74) (.t 75), none⟩,
    ⟨some 77, .faddr 0 (.t 76), none⟩,
    ⟨some 78, .load none (.t 77), none⟩,
    ⟨some 79, .bins .add (.t 78) (.c (.str [120])), none⟩,
    ⟨some 80, .iaddr 3 (.t 72) (.t 73), none⟩,
    ⟨some 81, .faddr 0 (.t 80), none⟩,
    ⟨none, .store none (.t 81) (.t 79), none⟩])
  (.seq (.regd [⟨0, ⟨some 82, .load (some 9) (.t 8), none⟩, false, [], []⟩,
    ⟨1, ⟨some 83, .load (some 9) (.t 9), none⟩, false, [], []⟩,
    ⟨2, ⟨some 84, .mov (.t 1), none⟩, false, [], []⟩,
    ⟨3, ⟨some 85, .mov (.t 11), none⟩, false, [], []⟩,
    ⟨5, ⟨some 87, .mov (.t 2), none⟩, false, [], []⟩,
    ⟨4, ⟨some 86, .call (.c (.fn 16 [] [])) [.t 82, .t 83, .t 84, .t 85], none⟩, true, [0, 1, 2, 3], []⟩,
    ⟨6, ⟨some 88, .bini .eql (.t 86) (.t 87), none⟩, false, .range 6, []⟩,
    ⟨7, ⟨some 89, .mov (.t 88), none⟩, false, .range 7, []⟩,
    ⟨8, ⟨some 90, .load (some 9) (.t 8), some (89, true)⟩, false, .range 8, []⟩,
    ⟨9, ⟨some 91, .load (some 9) (.t 9), some (89, true)⟩, false, .range 8, []⟩,
    ⟨10, ⟨some 92, .mov (.t 11), some (89, true)⟩, false, .range 8, []⟩,
    ⟨11, ⟨some 93, .mov (.t 1), some (89, true)⟩, false, .range 8, []⟩,
    ⟨13, ⟨some 95, .mov (.t 2), some (89, true)⟩, false, .range 8, []⟩,
    ⟨12, ⟨some 94, .call (.c (.fn 16 [] [])) [.t 90, .t 91, .t 92, .t 93], some (89, true)⟩, true, .range 12, []⟩,
    ⟨14, ⟨some 96, .bini .eql (.t 94) (.t 95), some (89, true)⟩, false, .range 14, []⟩,
    ⟨15, ⟨some 97, .pick (.t 89) (.t 96) (.c (.bool false)), none⟩, false, .range 15, []⟩,
    ⟨16, ⟨some 98, .mov (.t 97), none⟩, false, .range 16, []⟩,
    ⟨17, ⟨some 99, .load (some 9) (.t 8), some (98, true)⟩, false, .range 17, []⟩,
    ⟨18, ⟨some 100, .load (some 9) (.t 9), some (98, true)⟩, false, .range 17, []⟩,
    ⟨19, ⟨some 101, .mov (.t 1), some (98, true)⟩, false, .range 17, []⟩,
    ⟨20, ⟨some 102, .mov (.t 2), some (98, true)⟩, false, .range 17, []⟩,
    ⟨21, ⟨some 103, .slc 3 (.t 101) none (some (.t 102)) none, some (98, true)⟩, false, (.range 17 ++ [19, 20]), []⟩,
    ⟨22, ⟨some 104, .mov (.t 11), some (98, true)⟩, false, .range 17, []⟩,
    ⟨23, ⟨some 105, .mov (.t 2), some (98, true)⟩, false, .range 17, []⟩,
    ⟨24, ⟨some 106, .slc 3 (.t 104) none (some (.t 105)) none, some (98, true)⟩, false, (.range 17 ++ [22, 23]), []⟩,
    ⟨25, ⟨some 107, .call (.c (.fn 16 [] [])) [.t 99, .t 100, .t 103, .t 106], some (98, true)⟩, true, .range 25, []⟩,
    ⟨26, ⟨some 108, .bini .eql (.t 107) (.c (.int .i64 (-1))), some (98, true)⟩, false, .range 26, []⟩,
    ⟨27, ⟨some 109, .pick (.t 98) (.t 108) (.c (.bool false)), none⟩, false, .range 27, []⟩,
    ⟨28, ⟨some 110, .mov (.t 109), none⟩, false, .range 28, []⟩,
    ⟨29, ⟨some 111, .call (.c (.fn 9 [] [])) [], some (110, true)⟩, true, .range 29, []⟩,
    ⟨30, ⟨some 112, .pick (.t 110) (.t 111) (.c (.bool false)), none⟩, false, .range 30, []⟩,
    ⟨31, ⟨some 6, .mov (.t 112), none⟩, false, .range 31, []⟩] (.range 32) 113)
  (.ret))))))))))))) }
def p7l0 : PC := .loop (.cln [1, 3, 4, 5, 6] (.seq (.seq (.reg [⟨some 30, .mov (.t 6), none⟩,
    ⟨some 31, .mov (.t 5), none⟩,
    ⟨some 32, .bini .mul (.c (.int .i64 3)) (.t 31), none⟩,
    ⟨some 33, .bini .lss (.t 30) (.t 32), none⟩])
  (.cond (.t 33) (.skip) (.exit 0)))
  (.cln [1, 3, 4, 5, 6] (.seq (.block 1 (.seq (.reg [⟨some 7, .mov (.c (.str [48])), none⟩])
  (.seq (.seq (.reg [⟨some 36, .mov (.t 6), none⟩,
    ⟨some 37, .mov (.t 5), none⟩,
    ⟨some 38, .bini .geq (.t 36) (.t 37), none⟩])
  (.cond (.t 38) (.reg [⟨some 7, .mov (.c (.str [49])), none⟩]) (.skip)))
  (.cln [1, 3, 4, 5, 6, 7] (.seq (.seq (.reg [⟨some 39, .mov (.t 6), none⟩,
    ⟨some 40, .mov (.t 5), none⟩,
    ⟨some 41, .bini .mul (.c (.int .i64 2)) (.t 40), none⟩,
    ⟨some 42, .bini .geq (.t 39) (.t 41), none⟩])
  (.cond (.t 42) (.reg [⟨some 7, .mov (.c (.str [50])), none⟩]) (.skip)))
  (.cln [1, 3, 4, 5, 6, 7] (.seq (.regd [⟨0, ⟨some 43, .faddr 6 (.t 1), none⟩, false, [], []⟩,
    ⟨1, ⟨some 44, .load none (.t 43), none⟩, false, [0], []⟩,
    ⟨2, ⟨some 45, .mov (.t 6), none⟩, false, [], []⟩,
    ⟨3, ⟨some 46, .mov (.t 5), none⟩, false, [], []⟩,
    ⟨4, ⟨some 47, .bini .rem (.t 45) (.t 46), none⟩, false, [2, 3], []⟩,
    ⟨5, ⟨some 48, .iaddr 3 (.t 44) (.t 47), none⟩, false, .range 5, []⟩,
    ⟨6, ⟨some 49, .load (some 3) (.t 48), none⟩, false, .range 6, []⟩,
    ⟨7, ⟨some 8, .alloc 0 (.agg [.str [], .int .i64 0, .str []]), none⟩, false, [], []⟩,
    ⟨8, ⟨none, .store (some 3) (.t 8) (.t 49), none⟩, true, .range 8, []⟩] (.range 9) 50)
  (.seq (.regd [⟨0, ⟨some 50, .mov (.t 3), none⟩, false, [], []⟩,
    ⟨1, ⟨some 51, .mov (.t 6), none⟩, false, [], []⟩,
    ⟨2, ⟨some 52, .iaddr 3 (.t 50) (.t 51), none⟩, false, [0, 1], []⟩,
    ⟨3, ⟨some 53, .faddr 0 (.t 52), none⟩, false, [0, 1, 2], []⟩,
    ⟨4, ⟨some 54, .load none (.t 53), none⟩, false, [0, 1, 2, 3], []⟩,
    ⟨5, ⟨some 55, .faddr 0 (.t 8), none⟩, false, [], []⟩,
    ⟨6, ⟨some 56, .load none (.t 55), none⟩, false, [5], []⟩,
    ⟨7, ⟨some 57, .mov (.t 7), none⟩, false, [], []⟩,
    ⟨8, ⟨some 58, .bins .add (.t 56) (.t 57), none⟩, false, [5, 6, 7], []⟩,
    ⟨9, ⟨some 59, .bins .neq (.t 54) (.t 58), none⟩, false, .range 9, []⟩,
    ⟨10, ⟨some 60, .mov (.t 59), none⟩, false, .range 10, []⟩,
    ⟨11, ⟨some 61, .mov (.t 3), some (60, false)⟩, false, .range 11, []⟩,
    ⟨12, ⟨some 62, .mov (.t 6), some (60, false)⟩, false, .range 11, []⟩,
    ⟨13, ⟨some 63, .iaddr 3 (.t 61) (.t 62), some (60, false)⟩, false, .range 13, []⟩,
    ⟨14, ⟨some 64, .faddr 1 (.t 63), some (60, false)⟩, false, .range 14, []⟩,
    ⟨15, ⟨some 65, .load (some 2) (.t 64), some (60, false)⟩, false, .range 15, []⟩,
    ⟨16, ⟨some 66, .faddr 1 (.t 8), some (60, false)⟩, false, .range 11, []⟩,
    ⟨17, ⟨some 67, .load (some 2) (.t 66), some (60, false)⟩, false, (.range 11 ++ [16]), []⟩,
    ⟨18, ⟨some 68, .eq true (.parts [(0, 1, .ei), (1, 1, .es)]) (.t 65) (.t 67), some (60, false)⟩, false, .range 18, []⟩,
    ⟨19, ⟨some 69, .pick (.t 60) (.c (.bool true)) (.t 68), none⟩, false, .range 19, []⟩] (.range 20) 70)
  (.cond (.t 69) (.seq (.reg [⟨some 2, .mov (.c (.bool false)), none⟩])
  (.ret)) (.skip))))))))))
  (.cln [1, 3, 4, 5, 6] (.reg [⟨some 34, .mov (.t 6), none⟩,
    ⟨some 35, .bini .add (.t 34) (.c (.int .i64 1)), none⟩,
    ⟨some 6, .mov (.t 35), none⟩]))))))
def p7l1 : PC := .loop (.cln [1, 4, 9] (.seq (.seq (.reg [⟨some 70, .mov (.t 9), none⟩,
    ⟨some 71, .mov (.t 4), none⟩,
    ⟨some 72, .lenl (.t 71), none⟩,
    ⟨some 73, .bini .lss (.t 70) (.t 72), none⟩])
  (.cond (.t 73) (.skip) (.exit 2)))
  (.cln [1, 4, 9] (.seq (.block 3 (.seq (.regd [⟨0, ⟨some 76, .mov (.t 4), none⟩, false, [], []⟩,
    ⟨1, ⟨some 77, .mov (.t 9), none⟩, false, [], []⟩,
    ⟨2, ⟨some 78, .iaddr 3 (.t 76) (.t 77), none⟩, false, [0, 1], []⟩,
    ⟨3, ⟨some 79, .load (some 3) (.t 78), none⟩, false, [0, 1, 2], []⟩,
    ⟨4, ⟨some 80, .faddr 6 (.t 1), none⟩, false, [], []⟩,
    ⟨5, ⟨some 81, .load none (.t 80), none⟩, false, [4], []⟩,
    ⟨6, ⟨some 82, .mov (.t 9), none⟩, false, [], []⟩,
    ⟨7, ⟨some 83, .bini .add (.t 82) (.c (.int .i64 1)), none⟩, false, [6], []⟩,
    ⟨8, ⟨some 84, .iaddr 3 (.t 81) (.t 83), none⟩, false, [4, 5, 6, 7], []⟩,
    ⟨9, ⟨some 85, .load (some 3) (.t 84), none⟩, false, [4, 5, 6, 7, 8], []⟩,
    ⟨10, ⟨some 86, .eq true (.parts [(0, 1, .es), (1, 2, .parts [(0, 1, .ei), (1, 1, .es)])]) (.t 79) (.t 85), none⟩, false, .range 10, []⟩] (.range 11) 87)
  (.cond (.t 86) (.seq (.reg [⟨some 2, .mov (.c (.bool false)), none⟩])
  (.ret)) (.skip))))
  (.cln [1, 4, 9] (.reg [⟨some 74, .mov (.t 9), none⟩,
    ⟨some 75, .bini .add (.t 74) (.c (.int .i64 1)), none⟩,
    ⟨some 9, .mov (.t 75), none⟩]))))))
/-- frustum/frustumlaw28.LinkGeometryInputs -/
def p7 : PFn := { nparams := 1, ntmps := 88, nobjs := 1, pure := true, keep := false, results := [⟨2, none⟩], body := (.cln (List.range 1) (.seq (.reg [⟨some 1, .boxi (.t 0), none⟩,
    ⟨some 2, .mov (.c (.bool false)), none⟩])
  (.seq (.regd [⟨0, ⟨some 10, .load (some 9) (.t 1), none⟩, false, [], []⟩,
    ⟨2, ⟨some 12, .load (some 9) (.t 1), none⟩, false, [], []⟩,
    ⟨1, ⟨some 11, .call (.c (.fn 17 [] [])) [.t 10], none⟩, true, [0], [2]⟩,
    ⟨3, ⟨some 13, .call (.c (.fn 18 [] [])) [.t 12], none⟩, true, [0, 1, 2], []⟩,
    ⟨4, ⟨some 3, .mov (.t 11), none⟩, false, [0, 1, 2, 3], []⟩,
    ⟨5, ⟨some 4, .mov (.t 13), none⟩, false, .range 5, []⟩] (.range 6) 14)
  (.seq (.reg [⟨some 14, .faddr 6 (.t 1), none⟩,
    ⟨some 15, .load none (.t 14), none⟩,
    ⟨some 16, .lenl (.t 15), none⟩,
    ⟨some 5, .mov (.t 16), none⟩])
  (.seq (.seq (.reg [⟨some 17, .mov (.t 3), none⟩,
    ⟨some 18, .lenl (.t 17), none⟩,
    ⟨some 19, .mov (.t 5), none⟩,
    ⟨some 20, .bini .mul (.c (.int .i64 3)) (.t 19), none⟩,
    ⟨some 21, .bini .neq (.t 18) (.t 20), none⟩,
    ⟨some 22, .mov (.t 21), none⟩,
    ⟨some 23, .mov (.t 4), some (22, false)⟩,
    ⟨some 24, .lenl (.t 23), some (22, false)⟩,
    ⟨some 25, .mov (.t 5), some (22, false)⟩,
    ⟨some 26, .bini .sub (.t 25) (.c (.int .i64 1)), some (22, false)⟩,
    ⟨some 27, .mx (.c (.int .i64 0)) [.t 26], some (22, false)⟩,
    ⟨some 28, .bini .neq (.t 24) (.t 27), some (22, false)⟩,
    ⟨some 29, .pick (.t 22) (.c (.bool true)) (.t 28), none⟩])
  (.cond (.t 29) (.seq (.reg [⟨some 2, .mov (.c (.bool false)), none⟩])
  (.ret)) (.skip)))
  (.cln [1, 3, 4, 5] (.seq (.seq (.reg [⟨some 6, .mov (.c (.int .i64 0)), none⟩])
  (.block 0 (p7l0)))
  (.cln [1, 4] (.seq (.seq (.reg [⟨some 9, .mov (.c (.int .i64 0)), none⟩])
  (.block 2 (p7l1)))
  (.cln [] (.seq (.reg [⟨some 87, .call (.c (.fn 9 [] [])) [], none⟩,
    ⟨some 2, .mov (.t 87), none⟩])
  (.ret)))))))))))) }
inductive Tr where
  | e
  | l (m : Nat) (p : PFn)
  | n (k : Nat) (a b : Tr)
def Tr.get : Tr → Nat → Option PFn
  | .e, _ => none
  | .l m p, x => bif Nat.beq m x then some p else none
  | .n k a b, x => bif Nat.blt x k then a.get x else b.get x
def Tr.list : Tr → List (Nat × PFn)
  | .e => []
  | .l m p => [(m, p)]
  | .n _ a b => a.list ++ b.list
def tree : Tr := (.n 100 (.n 51 (.n 27 (.n 15 (.n 9 (.n 6 (.n 4 (.l 3 p3) (.n 5 (.l 4 p4) (.l 5 p5))) (.n 7 (.l 6 p6) (.n 8 (.l 7 p7) (.l 8 p8)))) (.n 12 (.n 10 (.l 9 p9) (.n 11 (.l 10 p10) (.l 11 p11))) (.n 13 (.l 12 p12) (.n 14 (.l 13 p13) (.l 14 p14))))) (.n 21 (.n 18 (.n 16 (.l 15 p15) (.n 17 (.l 16 p16) (.l 17 p17))) (.n 19 (.l 18 p18) (.n 20 (.l 19 p19) (.l 20 p20)))) (.n 24 (.n 22 (.l 21 p21) (.n 23 (.l 22 p22) (.l 23 p23))) (.n 25 (.l 24 p24) (.n 26 (.l 25 p25) (.l 26 p26)))))) (.n 39 (.n 33 (.n 30 (.n 28 (.l 27 p27) (.n 29 (.l 28 p28) (.l 29 p29))) (.n 31 (.l 30 p30) (.n 32 (.l 31 p31) (.l 32 p32)))) (.n 36 (.n 34 (.l 33 p33) (.n 35 (.l 34 p34) (.l 35 p35))) (.n 37 (.l 36 p36) (.n 38 (.l 37 p37) (.l 38 p38))))) (.n 45 (.n 42 (.n 40 (.l 39 p39) (.n 41 (.l 40 p40) (.l 41 p41))) (.n 43 (.l 42 p42) (.n 44 (.l 43 p43) (.l 44 p44)))) (.n 48 (.n 46 (.l 45 p45) (.n 47 (.l 46 p46) (.l 47 p47))) (.n 49 (.l 48 p48) (.n 50 (.l 49 p49) (.l 50 p50))))))) (.n 75 (.n 63 (.n 57 (.n 54 (.n 52 (.l 51 p51) (.n 53 (.l 52 p52) (.l 53 p53))) (.n 55 (.l 54 p54) (.n 56 (.l 55 p55) (.l 56 p56)))) (.n 60 (.n 58 (.l 57 p57) (.n 59 (.l 58 p58) (.l 59 p59))) (.n 61 (.l 60 p60) (.n 62 (.l 61 p61) (.l 62 p62))))) (.n 69 (.n 66 (.n 64 (.l 63 p63) (.n 65 (.l 64 p64) (.l 65 p65))) (.n 67 (.l 66 p66) (.n 68 (.l 67 p67) (.l 68 p68)))) (.n 72 (.n 70 (.l 69 p69) (.n 71 (.l 70 p70) (.l 71 p71))) (.n 73 (.l 72 p72) (.n 74 (.l 73 p73) (.l 74 p74)))))) (.n 87 (.n 81 (.n 78 (.n 76 (.l 75 p75) (.n 77 (.l 76 p76) (.l 77 p77))) (.n 79 (.l 78 p78) (.n 80 (.l 79 p79) (.l 80 p80)))) (.n 84 (.n 82 (.l 81 p81) (.n 83 (.l 82 p82) (.l 83 p83))) (.n 85 (.l 84 p84) (.n 86 (.l 85 p85) (.l 86 p86))))) (.n 93 (.n 90 (.n 88 (.l 87 p87) (.n 89 (.l 88 p88) (.l 89 p89))) (.n 91 (.l 90 p90) (.n 92 (.l 91 p91) (.l 92 p92)))) (.n 96 (.n 94 (.l 93 p93) (.n 95 (.l 94 p94) (.l 95 p95))) (.n 98 (.n 97 (.l 96 p96) (.l 97 p97)) (.n 99 (.l 98 p98) (.l 99 p99)))))))) (.n 148 (.n 124 (.n 112 (.n 106 (.n 103 (.n 101 (.l 100 p100) (.n 102 (.l 101 p101) (.l 102 p102))) (.n 104 (.l 103 p103) (.n 105 (.l 104 p104) (.l 105 p105)))) (.n 109 (.n 107 (.l 106 p106) (.n 108 (.l 107 p107) (.l 108 p108))) (.n 110 (.l 109 p109) (.n 111 (.l 110 p110) (.l 111 p111))))) (.n 118 (.n 115 (.n 113 (.l 112 p112) (.n 114 (.l 113 p113) (.l 114 p114))) (.n 116 (.l 115 p115) (.n 117 (.l 116 p116) (.l 117 p117)))) (.n 121 (.n 119 (.l 118 p118) (.n 120 (.l 119 p119) (.l 120 p120))) (.n 122 (.l 121 p121) (.n 123 (.l 122 p122) (.l 123 p123)))))) (.n 136 (.n 130 (.n 127 (.n 125 (.l 124 p124) (.n 126 (.l 125 p125) (.l 126 p126))) (.n 128 (.l 127 p127) (.n 129 (.l 128 p128) (.l 129 p129)))) (.n 133 (.n 131 (.l 130 p130) (.n 132 (.l 131 p131) (.l 132 p132))) (.n 134 (.l 133 p133) (.n 135 (.l 134 p134) (.l 135 p135))))) (.n 142 (.n 139 (.n 137 (.l 136 p136) (.n 138 (.l 137 p137) (.l 138 p138))) (.n 140 (.l 139 p139) (.n 141 (.l 140 p140) (.l 141 p141)))) (.n 145 (.n 143 (.l 142 p142) (.n 144 (.l 143 p143) (.l 144 p144))) (.n 146 (.l 145 p145) (.n 147 (.l 146 p146) (.l 147 p147))))))) (.n 172 (.n 160 (.n 154 (.n 151 (.n 149 (.l 148 p148) (.n 150 (.l 149 p149) (.l 150 p150))) (.n 152 (.l 151 p151) (.n 153 (.l 152 p152) (.l 153 p153)))) (.n 157 (.n 155 (.l 154 p154) (.n 156 (.l 155 p155) (.l 156 p156))) (.n 158 (.l 157 p157) (.n 159 (.l 158 p158) (.l 159 p159))))) (.n 166 (.n 163 (.n 161 (.l 160 p160) (.n 162 (.l 161 p161) (.l 162 p162))) (.n 164 (.l 163 p163) (.n 165 (.l 164 p164) (.l 165 p165)))) (.n 169 (.n 167 (.l 166 p166) (.n 168 (.l 167 p167) (.l 168 p168))) (.n 170 (.l 169 p169) (.n 171 (.l 170 p170) (.l 171 p171)))))) (.n 184 (.n 178 (.n 175 (.n 173 (.l 172 p172) (.n 174 (.l 173 p173) (.l 174 p174))) (.n 176 (.l 175 p175) (.n 177 (.l 176 p176) (.l 177 p177)))) (.n 181 (.n 179 (.l 178 p178) (.n 180 (.l 179 p179) (.l 180 p180))) (.n 182 (.l 181 p181) (.n 183 (.l 182 p182) (.l 183 p183))))) (.n 190 (.n 187 (.n 185 (.l 184 p184) (.n 186 (.l 185 p185) (.l 186 p186))) (.n 188 (.l 187 p187) (.n 189 (.l 188 p188) (.l 189 p189)))) (.n 193 (.n 191 (.l 190 p190) (.n 192 (.l 191 p191) (.l 192 p192))) (.n 195 (.n 194 (.l 193 p193) (.l 194 p194)) (.n 196 (.l 195 p195) (.l 196 p196)))))))))
def table : List (Nat × PFn) := tree.list
def pf (n : Nat) : Option PFn := tree.get n
end Go.VI.S
