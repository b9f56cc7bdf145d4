/- The seat's functions as VI's codes, printed by a program, part 1. -/
import Derived.Test.YtjhaldbohblieaaGreatDoorVA
set_option maxRecDepth 100000
namespace Go.VI.S
open Go.VI

def p28l0 : PC := .loop (.cln [0, 3] (.seq (.seq (.reg [⟨some 4, .mov (.t 3), none⟩,
    ⟨some 5, .mov (.t 0), none⟩,
    ⟨some 6, .lenl (.t 5), none⟩,
    ⟨some 7, .bini .lss (.t 4) (.t 6), none⟩])
  (.cond (.t 7) (.skip) (.exit 0)))
  (.cln [0, 3] (.seq (.block 1 (.seq (.reg [⟨some 10, .mov (.t 0), none⟩,
    ⟨some 11, .mov (.t 3), none⟩,
    ⟨some 12, .iaddr 3 (.t 10) (.t 11), none⟩,
    ⟨some 13, .faddr 1 (.t 12), none⟩,
    ⟨some 14, .faddr 0 (.t 13), none⟩,
    ⟨some 15, .load none (.t 14), none⟩,
    ⟨some 16, .bini .neq (.t 15) (.c (.int .i64 8)), none⟩,
    ⟨some 17, .mov (.t 16), none⟩,
    ⟨some 18, .mov (.t 0), some (17, true)⟩,
    ⟨some 19, .mov (.t 3), some (17, true)⟩,
    ⟨some 20, .iaddr 3 (.t 18) (.t 19), some (17, true)⟩,
    ⟨some 21, .faddr 1 (.t 20), some (17, true)⟩,
    ⟨some 22, .faddr 1 (.t 21), some (17, true)⟩,
    ⟨some 23, .load none (.t 22), some (17, true)⟩,
    ⟨some 24, .bins .neq (.t 23) (.c (.str [])), some (17, true)⟩,
    ⟨some 25, .pick (.t 17) (.t 24) (.c (.bool false)), none⟩])
  (.cond (.t 25) (.seq (.reg [⟨some 2, .mov (.c (.bool false)), none⟩])
  (.ret)) (.skip))))
  (.cln [0, 3] (.reg [⟨some 8, .mov (.t 3), none⟩,
    ⟨some 9, .bini .add (.t 8) (.c (.int .i64 1)), none⟩,
    ⟨some 3, .mov (.t 9), none⟩]))))))
/-- frustum/frustumref20.cleanFields -/
def p28 : PFn := { nparams := 1, ntmps := 26, nobjs := 0, pure := true, keep := false, results := [⟨2, none⟩], body := (.cln (List.range 1) (.seq (.reg [⟨some 2, .mov (.c (.bool false)), none⟩])
  (.seq (.seq (.reg [⟨some 3, .mov (.c (.int .i64 0)), none⟩])
  (.block 0 (p28l0)))
  (.cln [] (.seq (.reg [⟨some 2, .mov (.c (.bool true)), none⟩])
  (.ret)))))) }
def p29l0 : PC := .loop (.cln [0, 3] (.seq (.seq (.reg [⟨some 4, .mov (.t 3), none⟩,
    ⟨some 5, .mov (.t 0), none⟩,
    ⟨some 6, .lenl (.t 5), none⟩,
    ⟨some 7, .bini .lss (.t 4) (.t 6), none⟩])
  (.cond (.t 7) (.skip) (.exit 0)))
  (.cln [0, 3] (.seq (.block 1 (.seq (.reg [⟨some 10, .mov (.t 0), none⟩,
    ⟨some 11, .mov (.t 3), none⟩,
    ⟨some 12, .iaddr 17 (.t 10) (.t 11), none⟩,
    ⟨some 13, .faddr 2 (.t 12), none⟩,
    ⟨some 14, .faddr 0 (.t 13), none⟩,
    ⟨some 15, .load none (.t 14), none⟩,
    ⟨some 16, .bini .neq (.t 15) (.c (.int .i64 8)), none⟩,
    ⟨some 17, .mov (.t 16), none⟩,
    ⟨some 18, .mov (.t 0), some (17, true)⟩,
    ⟨some 19, .mov (.t 3), some (17, true)⟩,
    ⟨some 20, .iaddr 17 (.t 18) (.t 19), some (17, true)⟩,
    ⟨some 21, .faddr 2 (.t 20), some (17, true)⟩,
    ⟨some 22, .faddr 1 (.t 21), some (17, true)⟩,
    ⟨some 23, .load none (.t 22), some (17, true)⟩,
    ⟨some 24, .bins .neq (.t 23) (.c (.str [])), some (17, true)⟩,
    ⟨some 25, .pick (.t 17) (.t 24) (.c (.bool false)), none⟩,
    ⟨some 26, .mov (.t 25), none⟩,
    ⟨some 27, .mov (.t 0), some (26, false)⟩,
    ⟨some 28, .mov (.t 3), some (26, false)⟩,
    ⟨some 29, .iaddr 17 (.t 27) (.t 28), some (26, false)⟩,
    ⟨some 30, .faddr 15 (.t 29), some (26, false)⟩,
    ⟨some 31, .load none (.t 30), some (26, false)⟩,
    ⟨some 32, .call (.c (.fn 29 [] [])) [.t 31], some (26, false)⟩,
    ⟨some 33, .notb (.t 32), some (26, false)⟩,
    ⟨some 34, .pick (.t 26) (.c (.bool true)) (.t 33), none⟩,
    ⟨some 35, .mov (.t 34), none⟩,
    ⟨some 36, .mov (.t 0), some (35, false)⟩,
    ⟨some 37, .mov (.t 3), some (35, false)⟩,
    ⟨some 38, .iaddr 17 (.t 36) (.t 37), some (35, false)⟩,
    ⟨some 39, .faddr 16 (.t 38), some (35, false)⟩,
    ⟨some 40, .load none (.t 39), some (35, false)⟩,
    ⟨some 41, .call (.c (.fn 29 [] [])) [.t 40], some (35, false)⟩,
    ⟨some 42, .notb (.t 41), some (35, false)⟩,
    ⟨some 43, .pick (.t 35) (.c (.bool true)) (.t 42), none⟩])
  (.cond (.t 43) (.seq (.reg [⟨some 2, .mov (.c (.bool false)), none⟩])
  (.ret)) (.skip))))
  (.cln [0, 3] (.reg [⟨some 8, .mov (.t 3), none⟩,
    ⟨some 9, .bini .add (.t 8) (.c (.int .i64 1)), none⟩,
    ⟨some 3, .mov (.t 9), none⟩]))))))
/-- frustum/frustumref20.cleanStmts -/
def p29 : PFn := { nparams := 1, ntmps := 44, nobjs := 0, pure := true, keep := false, results := [⟨2, none⟩], body := (.cln (List.range 1) (.seq (.reg [⟨some 2, .mov (.c (.bool false)), none⟩])
  (.seq (.seq (.reg [⟨some 3, .mov (.c (.int .i64 0)), none⟩])
  (.block 0 (p29l0)))
  (.cln [] (.seq (.reg [⟨some 2, .mov (.c (.bool true)), none⟩])
  (.ret)))))) }
def p12l0 : PC := .loop (.cln [2, 5] (.seq (.seq (.reg [⟨some 35, .mov (.t 5), none⟩,
    ⟨some 36, .faddr 1 (.t 2), none⟩,
    ⟨some 37, .load none (.t 36), none⟩,
    ⟨some 38, .lenl (.t 37), none⟩,
    ⟨some 39, .bini .lss (.t 35) (.t 38), none⟩])
  (.cond (.t 39) (.skip) (.exit 0)))
  (.cln [2, 5] (.seq (.block 1 (.seq (.reg [⟨some 42, .faddr 1 (.t 2), none⟩,
    ⟨some 43, .load none (.t 42), none⟩,
    ⟨some 44, .mov (.t 5), none⟩,
    ⟨some 45, .iaddr 2 (.t 43) (.t 44), none⟩,
    ⟨some 46, .faddr 1 (.t 45), none⟩,
    ⟨some 47, .load none (.t 46), none⟩,
    ⟨some 48, .call (.c (.fn 28 [] [])) [.t 47], none⟩,
    ⟨some 49, .notb (.t 48), none⟩])
  (.cond (.t 49) (.seq (.reg [⟨some 4, .mov (.c (.bool false)), none⟩])
  (.ret)) (.skip))))
  (.cln [2, 5] (.reg [⟨some 40, .mov (.t 5), none⟩,
    ⟨some 41, .bini .add (.t 40) (.c (.int .i64 1)), none⟩,
    ⟨some 5, .mov (.t 41), none⟩]))))))
def p12l1 : PC := .loop (.cln [2, 6] (.seq (.seq (.reg [⟨some 50, .mov (.t 6), none⟩,
    ⟨some 51, .faddr 7 (.t 2), none⟩,
    ⟨some 52, .load none (.t 51), none⟩,
    ⟨some 53, .lenl (.t 52), none⟩,
    ⟨some 54, .bini .lss (.t 50) (.t 53), none⟩])
  (.cond (.t 54) (.skip) (.exit 2)))
  (.cln [2, 6] (.seq (.block 3 (.seq (.reg [⟨some 57, .faddr 7 (.t 2), none⟩,
    ⟨some 58, .load none (.t 57), none⟩,
    ⟨some 59, .mov (.t 6), none⟩,
    ⟨some 60, .iaddr 10 (.t 58) (.t 59), none⟩,
    ⟨some 61, .load (some 10) (.t 60), none⟩,
    ⟨some 7, .alloc 0 (.agg [.str [], .vs .nil [], .int .i64 0, .str [], .vs .nil [], .int .i64 0, .int .i64 0, .str [], .int .i64 0, .vs .nil []]), none⟩,
    ⟨none, .store (some 10) (.t 7) (.t 61), none⟩])
  (.seq (.reg [⟨some 62, .faddr 1 (.t 7), none⟩,
    ⟨some 63, .load none (.t 62), none⟩,
    ⟨some 64, .call (.c (.fn 28 [] [])) [.t 63], none⟩,
    ⟨some 65, .notb (.t 64), none⟩,
    ⟨some 66, .mov (.t 65), none⟩,
    ⟨some 67, .faddr 2 (.t 7), some (66, false)⟩,
    ⟨some 68, .load (some 2) (.t 67), some (66, false)⟩,
    ⟨some 69, .build [.str [], .int .i64 0, .str []] [(1, 2, .t 68)], some (66, false)⟩,
    ⟨some 70, .bsl [.agg [.str [], .int .i64 0, .str []]] [(0, .t 69)], some (66, false)⟩,
    ⟨some 71, .call (.c (.fn 28 [] [])) [.t 70], some (66, false)⟩,
    ⟨some 72, .notb (.t 71), some (66, false)⟩,
    ⟨some 73, .pick (.t 66) (.c (.bool true)) (.t 72), none⟩,
    ⟨some 74, .mov (.t 73), none⟩,
    ⟨some 75, .faddr 4 (.t 7), some (74, false)⟩,
    ⟨some 76, .load none (.t 75), some (74, false)⟩,
    ⟨some 77, .call (.c (.fn 29 [] [])) [.t 76], some (74, false)⟩,
    ⟨some 78, .notb (.t 77), some (74, false)⟩,
    ⟨some 79, .pick (.t 74) (.c (.bool true)) (.t 78), none⟩])
  (.cond (.t 79) (.seq (.reg [⟨some 4, .mov (.c (.bool false)), none⟩])
  (.ret)) (.skip)))))
  (.cln [2, 6] (.reg [⟨some 55, .mov (.t 6), none⟩,
    ⟨some 56, .bini .add (.t 55) (.c (.int .i64 1)), none⟩,
    ⟨some 6, .mov (.t 56), none⟩]))))))
/-- frustum/frustumref20.Clean -/
def p12 : PFn := { nparams := 2, ntmps := 80, nobjs := 1, pure := true, keep := false, results := [⟨4, none⟩], body := (.cln (List.range 2) (.seq (.reg [⟨some 2, .boxi (.t 0), none⟩,
    ⟨some 4, .mov (.c (.bool false)), none⟩])
  (.seq (.seq (.reg [⟨some 8, .mov (.t 1), none⟩,
    ⟨some 9, .call (.c (.fn 28 [] [])) [.t 8], none⟩,
    ⟨some 10, .notb (.t 9), none⟩,
    ⟨some 11, .mov (.t 10), none⟩,
    ⟨some 12, .faddr 2 (.t 2), some (11, false)⟩,
    ⟨some 13, .load none (.t 12), some (11, false)⟩,
    ⟨some 14, .call (.c (.fn 28 [] [])) [.t 13], some (11, false)⟩,
    ⟨some 15, .notb (.t 14), some (11, false)⟩,
    ⟨some 16, .pick (.t 11) (.c (.bool true)) (.t 15), none⟩,
    ⟨some 17, .mov (.t 16), none⟩,
    ⟨some 18, .faddr 5 (.t 2), some (17, false)⟩,
    ⟨some 19, .load none (.t 18), some (17, false)⟩,
    ⟨some 20, .call (.c (.fn 28 [] [])) [.t 19], some (17, false)⟩,
    ⟨some 21, .notb (.t 20), some (17, false)⟩,
    ⟨some 22, .pick (.t 17) (.c (.bool true)) (.t 21), none⟩,
    ⟨some 23, .mov (.t 22), none⟩,
    ⟨some 24, .faddr 6 (.t 2), some (23, false)⟩,
    ⟨some 25, .load none (.t 24), some (23, false)⟩,
    ⟨some 26, .call (.c (.fn 28 [] [])) [.t 25], some (23, false)⟩,
    ⟨some 27, .notb (.t 26), some (23, false)⟩,
    ⟨some 28, .pick (.t 23) (.c (.bool true)) (.t 27), none⟩,
    ⟨some 29, .mov (.t 28), none⟩,
    ⟨some 30, .faddr 8 (.t 2), some (29, false)⟩,
    ⟨some 31, .load none (.t 30), some (29, false)⟩,
    ⟨some 32, .call (.c (.fn 29 [] [])) [.t 31], some (29, false)⟩,
    ⟨some 33, .notb (.t 32), some (29, false)⟩,
    ⟨some 34, .pick (.t 29) (.c (.bool true)) (.t 33), none⟩])
  (.cond (.t 34) (.seq (.reg [⟨some 4, .mov (.c (.bool false)), none⟩])
  (.ret)) (.skip)))
  (.cln [2] (.seq (.seq (.reg [⟨some 5, .mov (.c (.int .i64 0)), none⟩])
  (.block 0 (p12l0)))
  (.cln [2] (.seq (.seq (.reg [⟨some 6, .mov (.c (.int .i64 0)), none⟩])
  (.block 2 (p12l1)))
  (.cln [] (.seq (.reg [⟨some 4, .mov (.c (.bool true)), none⟩])
  (.ret)))))))))) }
/-- frustum/frustumlaw28.clean -/
def p8 : PFn := { nparams := 1, ntmps := 11, nobjs := 0, pure := true, keep := false, results := [⟨2, none⟩], body := (.cln (List.range 1) (.seq (.reg [⟨some 1, .boxi (.t 0), none⟩,
    ⟨some 2, .mov (.c (.bool false)), none⟩])
  (.seq (.reg [⟨some 3, .faddr 0 (.t 1), none⟩,
    ⟨some 4, .load (some 9) (.t 3), none⟩,
    ⟨some 5, .call (.c (.fn 12 [] [])) [.t 4, .c (.vs .nil [])], none⟩,
    ⟨some 6, .mov (.t 5), none⟩,
    ⟨some 7, .faddr 9 (.t 1), some (6, true)⟩,
    ⟨some 8, .load (some 9) (.t 7), some (6, true)⟩,
    ⟨some 9, .call (.c (.fn 12 [] [])) [.t 8, .c (.vs .nil [])], some (6, true)⟩,
    ⟨some 10, .pick (.t 6) (.t 9) (.c (.bool false)), none⟩,
    ⟨some 2, .mov (.t 10), none⟩])
  (.ret)))) }
/-- frustum/frustumlaw28.of -/
def p19 : PFn := { nparams := 1, ntmps := 5, nobjs := 1, pure := true, keep := false, results := [⟨2, some (some 2)⟩], body := (.cln (List.range 1) (.seq (.reg [⟨some 2, .alloc 0 (.agg [.int .i64 0, .str []]), none⟩])
  (.seq (.reg [⟨some 3, .mov (.t 0), none⟩,
    ⟨some 4, .build [.int .i64 0, .str []] [(0, 1, .t 3)], none⟩,
    ⟨none, .store (some 2) (.t 2) (.t 4), none⟩])
  (.ret)))) }
/-- frustum/parser.counted -/
def p114 : PFn := { nparams := 1, ntmps := 18, nobjs := 0, pure := true, keep := false, results := [⟨2, none⟩], body := (.cln (List.range 1) (.seq (.reg [⟨some 1, .boxi (.t 0), none⟩,
    ⟨some 2, .mov (.c (.vs .nil [])), none⟩])
  (.seq (.seq (.reg [⟨some 3, .faddr 0 (.t 1), none⟩,
    ⟨some 4, .load none (.t 3), none⟩])
  (.block 0 (.seq (.reg [⟨some 6, .bini .eql (.t 4) (.c (.int .i64 2)), none⟩,
    ⟨some 5, .mov (.t 6), none⟩])
  (.cond (.t 5) (.seq (.reg [⟨some 7, .faddr 4 (.t 1), none⟩,
    ⟨some 8, .load (some 5) (.t 7), none⟩,
    ⟨some 9, .faddr 9 (.t 1), none⟩,
    ⟨some 10, .load (some 5) (.t 9), none⟩,
    ⟨some 11, .bsl [.agg [.int .i64 0, .int .i64 0, .str [], .int .i64 0, .vs .nil []], .agg [.int .i64 0, .int .i64 0, .str [], .int .i64 0, .vs .nil []]] [(0, .t 8), (1, .t 10)], none⟩,
    ⟨some 2, .mov (.t 11), none⟩])
  (.ret)) (.seq (.seq (.reg [⟨some 13, .bini .eql (.t 4) (.c (.int .i64 1)), none⟩,
    ⟨some 12, .mov (.t 13), none⟩])
  (.cond (.t 12) (.skip) (.reg [⟨some 14, .bini .eql (.t 4) (.c (.int .i64 3)), none⟩,
    ⟨some 12, .mov (.t 14), none⟩])))
  (.cln [1, 12] (.cond (.t 12) (.seq (.reg [⟨some 15, .faddr 9 (.t 1), none⟩,
    ⟨some 16, .load (some 5) (.t 15), none⟩,
    ⟨some 17, .bsl [.agg [.int .i64 0, .int .i64 0, .str [], .int .i64 0, .vs .nil []]] [(0, .t 16)], none⟩,
    ⟨some 2, .mov (.t 17), none⟩])
  (.ret)) (.skip))))))))
  (.cln [] (.seq (.reg [⟨some 2, .mov (.c (.vs .nil [])), none⟩])
  (.ret)))))) }
def p80l0 : PC := .loop (.cln [3, 7, 8, 9] (.seq (.reg [⟨some 10, .bini .lss (.t 9) (.t 8), none⟩])
  (.seq (.cond (.t 10) (.skip) (.exit 0))
  (.cln [3, 7, 8, 9] (.seq (.block 1 (.seq (.reg [⟨some 11, .iaddr 5 (.t 7) (.t 9), none⟩,
    ⟨some 12, .load (some 5) (.t 11), none⟩,
    ⟨some 5, .alloc 0 (.agg [.int .i64 0, .int .i64 0, .str [], .int .i64 0, .vs .nil []]), none⟩,
    ⟨none, .store (some 5) (.t 5) (.t 12), none⟩])
  (.reg [⟨some 13, .mov (.t 3), none⟩,
    ⟨some 14, .load (some 5) (.t 5), none⟩,
    ⟨some 15, .call (.c (.fn 80 [] [])) [.t 14], none⟩,
    ⟨some 16, .bini .add (.t 13) (.t 15), none⟩,
    ⟨some 3, .mov (.t 16), none⟩])))
  (.cln [3, 7, 8, 9] (.reg [⟨some 17, .bini .add (.t 9) (.c (.int .i64 1)), none⟩,
    ⟨some 9, .mov (.t 17), none⟩])))))))
/-- frustum/parser.ExprNodes -/
def p80 : PFn := { nparams := 1, ntmps := 19, nobjs := 1, pure := true, keep := false, results := [⟨2, none⟩], body := (.cln (List.range 1) (.seq (.reg [⟨some 1, .boxi (.t 0), none⟩,
    ⟨some 2, .mov (.c (.int .i64 0)), none⟩])
  (.seq (.reg [⟨some 3, .mov (.c (.int .i64 1)), none⟩])
  (.seq (.seq (.reg [⟨some 6, .faddr 4 (.t 1), none⟩,
    ⟨some 7, .load none (.t 6), none⟩,
    ⟨some 8, .lenl (.t 7), none⟩,
    ⟨some 9, .mov (.c (.int .i64 0)), none⟩])
  (.block 0 (p80l0)))
  (.cln [3] (.seq (.reg [⟨some 18, .mov (.t 3), none⟩,
    ⟨some 2, .mov (.t 18), none⟩])
  (.ret))))))) }
def p79l1 : PC := .loop (.cln [3, 10, 11, 12, 26, 27, 28] (.seq (.reg [⟨some 29, .bini .lss (.t 28) (.t 27), none⟩])
  (.seq (.cond (.t 29) (.skip) (.exit 2))
  (.cln [3, 10, 11, 12, 26, 27, 28] (.seq (.block 3 (.seq (.reg [⟨some 30, .iaddr 5 (.t 26) (.t 28), none⟩,
    ⟨some 31, .load (some 5) (.t 30), none⟩,
    ⟨some 7, .alloc 1 (.agg [.int .i64 0, .int .i64 0, .str [], .int .i64 0, .vs .nil []]), none⟩,
    ⟨none, .store (some 5) (.t 7) (.t 31), none⟩])
  (.reg [⟨some 32, .mov (.t 3), none⟩,
    ⟨some 33, .load (some 5) (.t 7), none⟩,
    ⟨some 34, .call (.c (.fn 80 [] [])) [.t 33], none⟩,
    ⟨some 35, .bini .add (.t 32) (.t 34), none⟩,
    ⟨some 3, .mov (.t 35), none⟩])))
  (.cln [3, 10, 11, 12, 26, 27, 28] (.reg [⟨some 36, .bini .add (.t 28) (.c (.int .i64 1)), none⟩,
    ⟨some 28, .mov (.t 36), none⟩])))))))
def p79l0 : PC := .loop (.cln [3, 10, 11, 12] (.seq (.reg [⟨some 13, .bini .lss (.t 12) (.t 11), none⟩])
  (.seq (.cond (.t 13) (.skip) (.exit 0))
  (.cln [3, 10, 11, 12] (.seq (.block 1 (.seq (.reg [⟨some 14, .iaddr 17 (.t 10) (.t 12), none⟩,
    ⟨some 15, .load (some 17) (.t 14), none⟩,
    ⟨some 5, .alloc 0 (.agg [.int .i64 0, .str [], .int .i64 0, .str [], .int .i64 0, .int .i64 0, .str [], .int .i64 0, .vs .nil [], .int .i64 0, .int .i64 0, .str [], .int .i64 0, .vs .nil [], .int .i64 0, .vs .nil [], .vs .nil []]), none⟩,
    ⟨none, .store (some 17) (.t 5) (.t 15), none⟩])
  (.seq (.regd [⟨0, ⟨some 16, .mov (.t 3), none⟩, false, [], []⟩,
    ⟨1, ⟨some 17, .faddr 15 (.t 5), none⟩, false, [], []⟩,
    ⟨2, ⟨some 18, .load none (.t 17), none⟩, false, [1], []⟩,
    ⟨4, ⟨some 20, .faddr 16 (.t 5), none⟩, false, [], []⟩,
    ⟨5, ⟨some 21, .load none (.t 20), none⟩, false, [4], []⟩,
    ⟨3, ⟨some 19, .call (.c (.fn 79 [] [])) [.t 18], none⟩, true, [1, 2], [4, 5]⟩,
    ⟨6, ⟨some 22, .call (.c (.fn 79 [] [])) [.t 21], none⟩, true, [1, 2, 3, 4, 5], []⟩,
    ⟨7, ⟨some 23, .bini .add (.t 19) (.t 22), none⟩, false, [1, 2, 3, 4, 5, 6], []⟩,
    ⟨8, ⟨some 24, .bini .add (.t 16) (.t 23), none⟩, false, .range 8, []⟩,
    ⟨9, ⟨some 3, .mov (.t 24), none⟩, true, .range 9, []⟩] (.range 10) 25)
  (.seq (.reg [⟨some 25, .load (some 17) (.t 5), none⟩,
    ⟨some 26, .call (.c (.fn 114 [] [])) [.t 25], none⟩,
    ⟨some 27, .lenl (.t 26), none⟩,
    ⟨some 28, .mov (.c (.int .i64 0)), none⟩])
  (.block 2 (p79l1))))))
  (.cln [3, 10, 11, 12] (.reg [⟨some 37, .bini .add (.t 12) (.c (.int .i64 1)), none⟩,
    ⟨some 12, .mov (.t 37), none⟩])))))))
/-- frustum/parser.nodes -/
def p79 : PFn := { nparams := 1, ntmps := 39, nobjs := 2, pure := true, keep := false, results := [⟨2, none⟩], body := (.cln (List.range 1) (.seq (.reg [⟨some 2, .mov (.c (.int .i64 0)), none⟩])
  (.seq (.reg [⟨some 8, .mov (.t 0), none⟩,
    ⟨some 9, .lenl (.t 8), none⟩,
    ⟨some 3, .mov (.t 9), none⟩])
  (.seq (.seq (.reg [⟨some 10, .mov (.t 0), none⟩,
    ⟨some 11, .lenl (.t 10), none⟩,
    ⟨some 12, .mov (.c (.int .i64 0)), none⟩])
  (.block 0 (p79l0)))
  (.cln [3] (.seq (.reg [⟨some 38, .mov (.t 3), none⟩,
    ⟨some 2, .mov (.t 38), none⟩])
  (.ret))))))) }
def p49l0 : PC := .loop (.cln [3, 10, 11, 12] (.seq (.reg [⟨some 13, .bini .lss (.t 12) (.t 11), none⟩])
  (.seq (.cond (.t 13) (.skip) (.exit 0))
  (.cln [3, 10, 11, 12] (.seq (.block 1 (.seq (.reg [⟨some 14, .iaddr 10 (.t 10) (.t 12), none⟩,
    ⟨some 15, .load (some 10) (.t 14), none⟩,
    ⟨some 5, .alloc 0 (.agg [.str [], .vs .nil [], .int .i64 0, .str [], .vs .nil [], .int .i64 0, .int .i64 0, .str [], .int .i64 0, .vs .nil []]), none⟩,
    ⟨none, .store (some 10) (.t 5) (.t 15), none⟩])
  (.regd [⟨0, ⟨some 16, .mov (.t 3), none⟩, false, [], []⟩,
    ⟨1, ⟨some 17, .faddr 4 (.t 5), none⟩, false, [], []⟩,
    ⟨2, ⟨some 18, .load none (.t 17), none⟩, false, [1], []⟩,
    ⟨4, ⟨some 20, .faddr 5 (.t 5), none⟩, false, [], []⟩,
    ⟨5, ⟨some 21, .load (some 5) (.t 20), none⟩, false, [4], []⟩,
    ⟨3, ⟨some 19, .call (.c (.fn 79 [] [])) [.t 18], none⟩, true, [1, 2], [4, 5]⟩,
    ⟨6, ⟨some 22, .call (.c (.fn 80 [] [])) [.t 21], none⟩, true, [1, 2, 3, 4, 5], []⟩,
    ⟨7, ⟨some 23, .bini .add (.t 19) (.t 22), none⟩, false, [1, 2, 3, 4, 5, 6], []⟩,
    ⟨8, ⟨some 24, .bini .add (.t 16) (.t 23), none⟩, false, .range 8, []⟩,
    ⟨9, ⟨some 3, .mov (.t 24), none⟩, true, .range 9, []⟩] (.range 10) 25)))
  (.cln [3, 10, 11, 12] (.reg [⟨some 25, .bini .add (.t 12) (.c (.int .i64 1)), none⟩,
    ⟨some 12, .mov (.t 25), none⟩])))))))
/-- frustum/parser.Nodes -/
def p49 : PFn := { nparams := 1, ntmps := 27, nobjs := 1, pure := true, keep := false, results := [⟨2, none⟩], body := (.cln (List.range 1) (.seq (.reg [⟨some 1, .boxi (.t 0), none⟩,
    ⟨some 2, .mov (.c (.int .i64 0)), none⟩])
  (.seq (.reg [⟨some 6, .faddr 8 (.t 1), none⟩,
    ⟨some 7, .load none (.t 6), none⟩,
    ⟨some 8, .call (.c (.fn 79 [] [])) [.t 7], none⟩,
    ⟨some 3, .mov (.t 8), none⟩])
  (.seq (.seq (.reg [⟨some 9, .faddr 7 (.t 1), none⟩,
    ⟨some 10, .load none (.t 9), none⟩,
    ⟨some 11, .lenl (.t 10), none⟩,
    ⟨some 12, .mov (.c (.int .i64 0)), none⟩])
  (.block 0 (p49l0)))
  (.cln [3] (.seq (.reg [⟨some 26, .mov (.t 3), none⟩,
    ⟨some 2, .mov (.t 26), none⟩])
  (.ret))))))) }
def p81l0 : PC := .loop (.cln [3, 6, 7, 8] (.seq (.reg [⟨some 9, .bini .lss (.t 8) (.t 7), none⟩])
  (.seq (.cond (.t 9) (.skip) (.exit 0))
  (.cln [3, 6, 7, 8] (.seq (.block 1 (.seq (.reg [⟨some 10, .iaddr 17 (.t 6) (.t 8), none⟩,
    ⟨some 11, .load (some 17) (.t 10), none⟩,
    ⟨some 5, .alloc 0 (.agg [.int .i64 0, .str [], .int .i64 0, .str [], .int .i64 0, .int .i64 0, .str [], .int .i64 0, .vs .nil [], .int .i64 0, .int .i64 0, .str [], .int .i64 0, .vs .nil [], .int .i64 0, .vs .nil [], .vs .nil []]), none⟩,
    ⟨none, .store (some 17) (.t 5) (.t 11), none⟩])
  (.regd [⟨0, ⟨some 12, .mov (.t 3), none⟩, false, [], []⟩,
    ⟨1, ⟨some 13, .faddr 15 (.t 5), none⟩, false, [], []⟩,
    ⟨2, ⟨some 14, .load none (.t 13), none⟩, false, [1], []⟩,
    ⟨4, ⟨some 16, .faddr 16 (.t 5), none⟩, false, [], []⟩,
    ⟨5, ⟨some 17, .load none (.t 16), none⟩, false, [4], []⟩,
    ⟨3, ⟨some 15, .call (.c (.fn 81 [] [])) [.t 14], none⟩, true, [1, 2], [4, 5]⟩,
    ⟨6, ⟨some 18, .call (.c (.fn 81 [] [])) [.t 17], none⟩, true, [1, 2, 3, 4, 5], []⟩,
    ⟨7, ⟨some 19, .mx (.t 15) [.t 18], none⟩, false, [1, 2, 3, 4, 5, 6], []⟩,
    ⟨8, ⟨some 20, .bini .add (.c (.int .i64 1)) (.t 19), none⟩, false, [1, 2, 3, 4, 5, 6, 7], []⟩,
    ⟨9, ⟨some 21, .mx (.t 12) [.t 20], none⟩, false, .range 9, []⟩,
    ⟨10, ⟨some 3, .mov (.t 21), none⟩, true, .range 10, []⟩] (.range 11) 22)))
  (.cln [3, 6, 7, 8] (.reg [⟨some 22, .bini .add (.t 8) (.c (.int .i64 1)), none⟩,
    ⟨some 8, .mov (.t 22), none⟩])))))))
/-- frustum/parser.stmtDepth -/
def p81 : PFn := { nparams := 1, ntmps := 24, nobjs := 1, pure := true, keep := false, results := [⟨2, none⟩], body := (.cln (List.range 1) (.seq (.reg [⟨some 2, .mov (.c (.int .i64 0)), none⟩])
  (.seq (.reg [⟨some 3, .mov (.c (.int .i64 0)), none⟩])
  (.seq (.seq (.reg [⟨some 6, .mov (.t 0), none⟩,
    ⟨some 7, .lenl (.t 6), none⟩,
    ⟨some 8, .mov (.c (.int .i64 0)), none⟩])
  (.block 0 (p81l0)))
  (.cln [3] (.seq (.reg [⟨some 23, .mov (.t 3), none⟩,
    ⟨some 2, .mov (.t 23), none⟩])
  (.ret))))))) }
def p83l0 : PC := .loop (.cln [3, 7, 8, 9] (.seq (.reg [⟨some 10, .bini .lss (.t 9) (.t 8), none⟩])
  (.seq (.cond (.t 10) (.skip) (.exit 0))
  (.cln [3, 7, 8, 9] (.seq (.block 1 (.seq (.reg [⟨some 11, .iaddr 5 (.t 7) (.t 9), none⟩,
    ⟨some 12, .load (some 5) (.t 11), none⟩,
    ⟨some 5, .alloc 0 (.agg [.int .i64 0, .int .i64 0, .str [], .int .i64 0, .vs .nil []]), none⟩,
    ⟨none, .store (some 5) (.t 5) (.t 12), none⟩])
  (.reg [⟨some 13, .mov (.t 3), none⟩,
    ⟨some 14, .load (some 5) (.t 5), none⟩,
    ⟨some 15, .call (.c (.fn 83 [] [])) [.t 14], none⟩,
    ⟨some 16, .mx (.t 13) [.t 15], none⟩,
    ⟨some 3, .mov (.t 16), none⟩])))
  (.cln [3, 7, 8, 9] (.reg [⟨some 17, .bini .add (.t 9) (.c (.int .i64 1)), none⟩,
    ⟨some 9, .mov (.t 17), none⟩])))))))
/-- frustum/parser.ExprDepth -/
def p83 : PFn := { nparams := 1, ntmps := 20, nobjs := 1, pure := true, keep := false, results := [⟨2, none⟩], body := (.cln (List.range 1) (.seq (.reg [⟨some 1, .boxi (.t 0), none⟩,
    ⟨some 2, .mov (.c (.int .i64 0)), none⟩])
  (.seq (.reg [⟨some 3, .mov (.c (.int .i64 0)), none⟩])
  (.seq (.seq (.reg [⟨some 6, .faddr 4 (.t 1), none⟩,
    ⟨some 7, .load none (.t 6), none⟩,
    ⟨some 8, .lenl (.t 7), none⟩,
    ⟨some 9, .mov (.c (.int .i64 0)), none⟩])
  (.block 0 (p83l0)))
  (.cln [3] (.seq (.reg [⟨some 18, .mov (.t 3), none⟩,
    ⟨some 19, .bini .add (.t 18) (.c (.int .i64 1)), none⟩,
    ⟨some 2, .mov (.t 19), none⟩])
  (.ret))))))) }
def p82l1 : PC := .loop (.cln [3, 8, 9, 10, 23, 24, 25] (.seq (.reg [⟨some 26, .bini .lss (.t 25) (.t 24), none⟩])
  (.seq (.cond (.t 26) (.skip) (.exit 2))
  (.cln [3, 8, 9, 10, 23, 24, 25] (.seq (.block 3 (.seq (.reg [⟨some 27, .iaddr 5 (.t 23) (.t 25), none⟩,
    ⟨some 28, .load (some 5) (.t 27), none⟩,
    ⟨some 7, .alloc 1 (.agg [.int .i64 0, .int .i64 0, .str [], .int .i64 0, .vs .nil []]), none⟩,
    ⟨none, .store (some 5) (.t 7) (.t 28), none⟩])
  (.reg [⟨some 29, .mov (.t 3), none⟩,
    ⟨some 30, .load (some 5) (.t 7), none⟩,
    ⟨some 31, .call (.c (.fn 83 [] [])) [.t 30], none⟩,
    ⟨some 32, .mx (.t 29) [.t 31], none⟩,
    ⟨some 3, .mov (.t 32), none⟩])))
  (.cln [3, 8, 9, 10, 23, 24, 25] (.reg [⟨some 33, .bini .add (.t 25) (.c (.int .i64 1)), none⟩,
    ⟨some 25, .mov (.t 33), none⟩])))))))
def p82l0 : PC := .loop (.cln [3, 8, 9, 10] (.seq (.reg [⟨some 11, .bini .lss (.t 10) (.t 9), none⟩])
  (.seq (.cond (.t 11) (.skip) (.exit 0))
  (.cln [3, 8, 9, 10] (.seq (.block 1 (.seq (.reg [⟨some 12, .iaddr 17 (.t 8) (.t 10), none⟩,
    ⟨some 13, .load (some 17) (.t 12), none⟩,
    ⟨some 5, .alloc 0 (.agg [.int .i64 0, .str [], .int .i64 0, .str [], .int .i64 0, .int .i64 0, .str [], .int .i64 0, .vs .nil [], .int .i64 0, .int .i64 0, .str [], .int .i64 0, .vs .nil [], .int .i64 0, .vs .nil [], .vs .nil []]), none⟩,
    ⟨none, .store (some 17) (.t 5) (.t 13), none⟩])
  (.seq (.regd [⟨0, ⟨some 14, .mov (.t 3), none⟩, false, [], []⟩,
    ⟨1, ⟨some 15, .faddr 15 (.t 5), none⟩, false, [], []⟩,
    ⟨2, ⟨some 16, .load none (.t 15), none⟩, false, [1], []⟩,
    ⟨4, ⟨some 18, .faddr 16 (.t 5), none⟩, false, [], []⟩,
    ⟨5, ⟨some 19, .load none (.t 18), none⟩, false, [4], []⟩,
    ⟨3, ⟨some 17, .call (.c (.fn 82 [] [])) [.t 16], none⟩, true, [1, 2], [4, 5]⟩,
    ⟨6, ⟨some 20, .call (.c (.fn 82 [] [])) [.t 19], none⟩, true, [1, 2, 3, 4, 5], []⟩,
    ⟨7, ⟨some 21, .mx (.t 14) [.t 17, .t 20], none⟩, false, .range 7, []⟩,
    ⟨8, ⟨some 3, .mov (.t 21), none⟩, true, .range 8, []⟩] (.range 9) 22)
  (.seq (.reg [⟨some 22, .load (some 17) (.t 5), none⟩,
    ⟨some 23, .call (.c (.fn 114 [] [])) [.t 22], none⟩,
    ⟨some 24, .lenl (.t 23), none⟩,
    ⟨some 25, .mov (.c (.int .i64 0)), none⟩])
  (.block 2 (p82l1))))))
  (.cln [3, 8, 9, 10] (.reg [⟨some 34, .bini .add (.t 10) (.c (.int .i64 1)), none⟩,
    ⟨some 10, .mov (.t 34), none⟩])))))))
/-- frustum/parser.exprDepth -/
def p82 : PFn := { nparams := 1, ntmps := 36, nobjs := 2, pure := true, keep := false, results := [⟨2, none⟩], body := (.cln (List.range 1) (.seq (.reg [⟨some 2, .mov (.c (.int .i64 0)), none⟩])
  (.seq (.reg [⟨some 3, .mov (.c (.int .i64 0)), none⟩])
  (.seq (.seq (.reg [⟨some 8, .mov (.t 0), none⟩,
    ⟨some 9, .lenl (.t 8), none⟩,
    ⟨some 10, .mov (.c (.int .i64 0)), none⟩])
  (.block 0 (p82l0)))
  (.cln [3] (.seq (.reg [⟨some 35, .mov (.t 3), none⟩,
    ⟨some 2, .mov (.t 35), none⟩])
  (.ret))))))) }
def p50l0 : PC := .loop (.cln [3, 14, 15, 16] (.seq (.reg [⟨some 17, .bini .lss (.t 16) (.t 15), none⟩])
  (.seq (.cond (.t 17) (.skip) (.exit 0))
  (.cln [3, 14, 15, 16] (.seq (.block 1 (.seq (.reg [⟨some 18, .iaddr 10 (.t 14) (.t 16), none⟩,
    ⟨some 19, .load (some 10) (.t 18), none⟩,
    ⟨some 5, .alloc 0 (.agg [.str [], .vs .nil [], .int .i64 0, .str [], .vs .nil [], .int .i64 0, .int .i64 0, .str [], .int .i64 0, .vs .nil []]), none⟩,
    ⟨none, .store (some 10) (.t 5) (.t 19), none⟩])
  (.regd [⟨0, ⟨some 20, .mov (.t 3), none⟩, false, [], []⟩,
    ⟨1, ⟨some 21, .faddr 4 (.t 5), none⟩, false, [], []⟩,
    ⟨2, ⟨some 22, .load none (.t 21), none⟩, false, [1], []⟩,
    ⟨4, ⟨some 24, .faddr 4 (.t 5), none⟩, false, [], []⟩,
    ⟨5, ⟨some 25, .load none (.t 24), none⟩, false, [4], []⟩,
    ⟨7, ⟨some 27, .faddr 5 (.t 5), none⟩, false, [], []⟩,
    ⟨8, ⟨some 28, .load (some 5) (.t 27), none⟩, false, [7], []⟩,
    ⟨3, ⟨some 23, .call (.c (.fn 81 [] [])) [.t 22], none⟩, true, [1, 2], [4, 5, 7, 8]⟩,
    ⟨6, ⟨some 26, .call (.c (.fn 82 [] [])) [.t 25], none⟩, true, [1, 2, 3, 4, 5], [7, 8]⟩,
    ⟨9, ⟨some 29, .call (.c (.fn 83 [] [])) [.t 28], none⟩, true, [1, 2, 3, 4, 5, 6, 7, 8], []⟩,
    ⟨10, ⟨some 30, .mx (.t 20) [.t 23, .t 26, .t 29], none⟩, false, .range 10, []⟩,
    ⟨11, ⟨some 3, .mov (.t 30), none⟩, true, .range 11, []⟩] (.range 12) 31)))
  (.cln [3, 14, 15, 16] (.reg [⟨some 31, .bini .add (.t 16) (.c (.int .i64 1)), none⟩,
    ⟨some 16, .mov (.t 31), none⟩])))))))
/-- frustum/parser.Depth -/
def p50 : PFn := { nparams := 1, ntmps := 33, nobjs := 1, pure := true, keep := false, results := [⟨2, none⟩], body := (.cln (List.range 1) (.seq (.reg [⟨some 1, .boxi (.t 0), none⟩,
    ⟨some 2, .mov (.c (.int .i64 0)), none⟩])
  (.seq (.regd [⟨0, ⟨some 6, .faddr 8 (.t 1), none⟩, false, [], []⟩,
    ⟨1, ⟨some 7, .load none (.t 6), none⟩, false, [0], []⟩,
    ⟨3, ⟨some 9, .faddr 8 (.t 1), none⟩, false, [], []⟩,
    ⟨4, ⟨some 10, .load none (.t 9), none⟩, false, [3], []⟩,
    ⟨2, ⟨some 8, .call (.c (.fn 81 [] [])) [.t 7], none⟩, true, [0, 1], [3, 4]⟩,
    ⟨5, ⟨some 11, .call (.c (.fn 82 [] [])) [.t 10], none⟩, true, .range 5, []⟩,
    ⟨6, ⟨some 12, .mx (.t 8) [.t 11], none⟩, false, .range 6, []⟩,
    ⟨7, ⟨some 3, .mov (.t 12), none⟩, false, .range 7, []⟩] (.range 8) 13)
  (.seq (.seq (.reg [⟨some 13, .faddr 7 (.t 1), none⟩,
    ⟨some 14, .load none (.t 13), none⟩,
    ⟨some 15, .lenl (.t 14), none⟩,
    ⟨some 16, .mov (.c (.int .i64 0)), none⟩])
  (.block 0 (p50l0)))
  (.cln [3] (.seq (.reg [⟨some 32, .mov (.t 3), none⟩,
    ⟨some 2, .mov (.t 32), none⟩])
  (.ret))))))) }
/-- frustum/types.when -/
def p40 : PFn := { nparams := 2, ntmps := 7, nobjs := 0, pure := true, keep := false, results := [⟨4, none⟩], body := (.cln (List.range 2) (.seq (.reg [⟨some 4, .mov (.c (.int .i64 0)), none⟩])
  (.seq (.seq (.reg [⟨some 5, .mov (.t 0), none⟩])
  (.cond (.t 5) (.seq (.reg [⟨some 6, .mov (.t 1), none⟩,
    ⟨some 4, .mov (.t 6), none⟩])
  (.ret)) (.skip)))
  (.cln [] (.seq (.reg [⟨some 4, .mov (.c (.int .i64 0)), none⟩])
  (.ret)))))) }
/-- (*frustum/types.checker).limits -/
def p33 : PFn := { nparams := 1, ntmps := 58, nobjs := 1, pure := false, keep := false, results := [⟨2, none⟩], body := (.cln (List.range 1) (.seq (.reg [⟨some 2, .mov (.c (.int .i64 0)), none⟩])
  (.seq (.reg [⟨some 5, .mov (.t 0), none⟩,
    ⟨some 6, .nilc (.t 5), none⟩,
    ⟨some 7, .faddr 0 (.t 6), none⟩,
    ⟨some 8, .load (some 9) (.t 7), none⟩,
    ⟨some 3, .alloc 0 (.agg [.int .i64 0, .vs .nil [], .vs .nil [], .vs .nil [], .vs .nil [], .vs .nil [], .vs .nil [], .vs .nil [], .vs .nil []]), none⟩,
    ⟨none, .store (some 9) (.t 3) (.t 8), none⟩])
  (.seq (.seq (.reg [⟨some 9, .faddr 0 (.t 3), none⟩,
    ⟨some 10, .load none (.t 9), none⟩,
    ⟨some 11, .bini .lss (.t 10) (.c (.int .i64 1)), none⟩,
    ⟨some 12, .mov (.t 11), none⟩,
    ⟨some 13, .faddr 0 (.t 3), some (12, false)⟩,
    ⟨some 14, .load none (.t 13), some (12, false)⟩,
    ⟨some 15, .bini .gtr (.t 14) (.c (.int .i64 3)), some (12, false)⟩,
    ⟨some 16, .pick (.t 12) (.c (.bool true)) (.t 15), none⟩])
  (.cond (.t 16) (.seq (.reg [⟨some 2, .mov (.c (.int .i64 10)), none⟩])
  (.ret)) (.skip)))
  (.cln [3] (.seq (.reg [⟨some 17, .faddr 1 (.t 3), none⟩,
    ⟨some 18, .load none (.t 17), none⟩,
    ⟨some 19, .lenl (.t 18), none⟩,
    ⟨some 20, .faddr 2 (.t 3), none⟩,
    ⟨some 21, .load none (.t 20), none⟩,
    ⟨some 22, .lenl (.t 21), none⟩,
    ⟨some 23, .faddr 5 (.t 3), none⟩,
    ⟨some 24, .load none (.t 23), none⟩,
    ⟨some 25, .lenl (.t 24), none⟩,
    ⟨some 26, .faddr 6 (.t 3), none⟩,
    ⟨some 27, .load none (.t 26), none⟩,
    ⟨some 28, .lenl (.t 27), none⟩,
    ⟨some 29, .faddr 7 (.t 3), none⟩,
    ⟨some 30, .load none (.t 29), none⟩,
    ⟨some 31, .lenl (.t 30), none⟩,
    ⟨some 32, .mx (.t 19) [.t 22, .t 25, .t 28, .t 31], none⟩,
    ⟨some 33, .bini .gtr (.t 32) (.c (.int .i64 16)), none⟩,
    ⟨some 4, .mov (.t 33), none⟩])
  (.seq (.reg [⟨some 34, .load (some 9) (.t 3), none⟩,
    ⟨some 35, .call (.c (.fn 49 [] [])) [.t 34], none⟩,
    ⟨some 36, .bini .gtr (.t 35) (.c (.int .i64 1000)), none⟩,
    ⟨some 37, .mov (.t 36), none⟩,
    ⟨some 38, .load (some 9) (.t 3), some (37, false)⟩,
    ⟨some 39, .call (.c (.fn 50 [] [])) [.t 38], some (37, false)⟩,
    ⟨some 40, .bini .gtr (.t 39) (.c (.int .i64 16)), some (37, false)⟩,
    ⟨some 41, .pick (.t 37) (.c (.bool true)) (.t 40), none⟩,
    ⟨some 42, .mov (.t 41), none⟩,
    ⟨some 43, .mov (.t 4), some (42, false)⟩,
    ⟨some 44, .pick (.t 42) (.c (.bool true)) (.t 43), none⟩,
    ⟨some 45, .mov (.t 44), none⟩,
    ⟨some 46, .faddr 3 (.t 3), some (45, false)⟩,
    ⟨some 47, .load none (.t 46), some (45, false)⟩,
    ⟨some 48, .lenl (.t 47), some (45, false)⟩,
    ⟨some 49, .bini .gtr (.t 48) (.c (.int .i64 4)), some (45, false)⟩,
    ⟨some 50, .pick (.t 45) (.c (.bool true)) (.t 49), none⟩,
    ⟨some 51, .mov (.t 50), none⟩,
    ⟨some 52, .faddr 4 (.t 3), some (51, false)⟩,
    ⟨some 53, .load none (.t 52), some (51, false)⟩,
    ⟨some 54, .lenl (.t 53), some (51, false)⟩,
    ⟨some 55, .bini .gtr (.t 54) (.c (.int .i64 4)), some (51, false)⟩,
    ⟨some 56, .pick (.t 51) (.c (.bool true)) (.t 55), none⟩,
    ⟨some 57, .call (.c (.fn 40 [] [])) [.t 56, .c (.int .i64 5)], none⟩,
    ⟨some 2, .mov (.t 57), none⟩])
  (.ret)))))))) }
def p84l0 : PC := .loop (.cln [0, 3] (.seq (.seq (.reg [⟨some 13, .mov (.t 3), none⟩,
    ⟨some 14, .mov (.t 0), none⟩,
    ⟨some 15, .lens (.t 14), none⟩,
    ⟨some 16, .bini .lss (.t 13) (.t 15), none⟩])
  (.cond (.t 16) (.skip) (.exit 0)))
  (.cln [0, 3] (.seq (.block 1 (.seq (.reg [⟨some 19, .mov (.t 0), none⟩,
    ⟨some 20, .mov (.t 3), none⟩,
    ⟨some 21, .idxs (.t 19) (.t 20), none⟩,
    ⟨some 4, .mov (.t 21), none⟩])
  (.seq (.reg [⟨some 22, .mov (.t 4), none⟩,
    ⟨some 23, .bini .geq (.t 22) (.c (.int .u8 97)), none⟩,
    ⟨some 24, .mov (.t 23), none⟩,
    ⟨some 25, .mov (.t 4), some (24, true)⟩,
    ⟨some 26, .bini .leq (.t 25) (.c (.int .u8 122)), some (24, true)⟩,
    ⟨some 27, .pick (.t 24) (.t 26) (.c (.bool false)), none⟩,
    ⟨some 28, .mov (.t 27), none⟩,
    ⟨some 29, .mov (.t 4), some (28, false)⟩,
    ⟨some 30, .bini .geq (.t 29) (.c (.int .u8 65)), some (28, false)⟩,
    ⟨some 31, .mov (.t 30), some (28, false)⟩,
    ⟨some 32, .mov (.t 4), some (31, true)⟩,
    ⟨some 33, .bini .leq (.t 32) (.c (.int .u8 90)), some (31, true)⟩,
    ⟨some 34, .pick (.t 31) (.t 33) (.c (.bool false)), some (28, false)⟩,
    ⟨some 35, .pick (.t 28) (.c (.bool true)) (.t 34), none⟩,
    ⟨some 36, .mov (.t 35), none⟩,
    ⟨some 37, .mov (.t 4), some (36, false)⟩,
    ⟨some 38, .bini .eql (.t 37) (.c (.int .u8 95)), some (36, false)⟩,
    ⟨some 39, .pick (.t 36) (.c (.bool true)) (.t 38), none⟩,
    ⟨some 5, .mov (.t 39), none⟩])
  (.seq (.reg [⟨some 40, .mov (.t 5), none⟩,
    ⟨some 41, .notb (.t 40), none⟩,
    ⟨some 42, .mov (.t 41), none⟩,
    ⟨some 43, .mov (.t 3), some (42, true)⟩,
    ⟨some 44, .bini .eql (.t 43) (.c (.int .i64 0)), some (42, true)⟩,
    ⟨some 45, .mov (.t 44), some (42, true)⟩,
    ⟨some 46, .mov (.t 4), some (45, false)⟩,
    ⟨some 47, .bini .lss (.t 46) (.c (.int .u8 48)), some (45, false)⟩,
    ⟨some 48, .pick (.t 45) (.c (.bool true)) (.t 47), some (42, true)⟩,
    ⟨some 49, .mov (.t 48), some (42, true)⟩,
    ⟨some 50, .mov (.t 4), some (49, false)⟩,
    ⟨some 51, .bini .gtr (.t 50) (.c (.int .u8 57)), some (49, false)⟩,
    ⟨some 52, .pick (.t 49) (.c (.bool true)) (.t 51), some (42, true)⟩,
    ⟨some 53, .pick (.t 42) (.t 52) (.c (.bool false)), none⟩])
  (.cond (.t 53) (.seq (.reg [⟨some 2, .mov (.c (.bool false)), none⟩])
  (.ret)) (.skip))))))
  (.cln [0, 3] (.reg [⟨some 17, .mov (.t 3), none⟩,
    ⟨some 18, .bini .add (.t 17) (.c (.int .i64 1)), none⟩,
    ⟨some 3, .mov (.t 18), none⟩]))))))
/-- frustum/format.IsName -/
def p84 : PFn := { nparams := 1, ntmps := 54, nobjs := 0, pure := true, keep := false, results := [⟨2, none⟩], body := (.cln (List.range 1) (.seq (.reg [⟨some 2, .mov (.c (.bool false)), none⟩])
  (.seq (.seq (.reg [⟨some 6, .mov (.t 0), none⟩,
    ⟨some 7, .bins .eql (.t 6) (.c (.str [])), none⟩,
    ⟨some 8, .mov (.t 7), none⟩,
    ⟨some 9, .mov (.t 0), some (8, false)⟩,
    ⟨some 10, .lens (.t 9), some (8, false)⟩,
    ⟨some 11, .bini .gtr (.t 10) (.c (.int .i64 16)), some (8, false)⟩,
    ⟨some 12, .pick (.t 8) (.c (.bool true)) (.t 11), none⟩])
  (.cond (.t 12) (.seq (.reg [⟨some 2, .mov (.c (.bool false)), none⟩])
  (.ret)) (.skip)))
  (.cln [0] (.seq (.seq (.reg [⟨some 3, .mov (.c (.int .i64 0)), none⟩])
  (.block 0 (p84l0)))
  (.cln [] (.seq (.reg [⟨some 2, .mov (.c (.bool true)), none⟩])
  (.ret)))))))) }
def p116l0 : PC := .loop (.cln [0, 7, 8, 9] (.seq (.reg [⟨some 10, .bini .lss (.t 9) (.t 8), none⟩])
  (.seq (.cond (.t 10) (.skip) (.exit 0))
  (.cln [0, 7, 8, 9] (.seq (.block 1 (.seq (.reg [⟨some 11, .iaddr 1 (.t 7) (.t 9), none⟩,
    ⟨some 12, .load none (.t 11), none⟩,
    ⟨some 6, .mov (.t 12), none⟩])
  (.seq (.reg [⟨some 13, .mov (.t 6), none⟩,
    ⟨some 14, .mov (.t 0), none⟩,
    ⟨some 15, .bins .eql (.t 13) (.t 14), none⟩])
  (.cond (.t 15) (.seq (.reg [⟨some 4, .mov (.c (.bool true)), none⟩])
  (.ret)) (.skip)))))
  (.cln [0, 7, 8, 9] (.reg [⟨some 16, .bini .add (.t 9) (.c (.int .i64 1)), none⟩,
    ⟨some 9, .mov (.t 16), none⟩])))))))
/-- frustum/lexer.among -/
def p116 : PFn := { nparams := 2, ntmps := 17, nobjs := 0, pure := true, keep := false, results := [⟨4, none⟩], body := (.cln (List.range 2) (.seq (.reg [⟨some 4, .mov (.c (.bool false)), none⟩])
  (.seq (.seq (.reg [⟨some 7, .mov (.t 1), none⟩,
    ⟨some 8, .lenl (.t 7), none⟩,
    ⟨some 9, .mov (.c (.int .i64 0)), none⟩])
  (.block 0 (p116l0)))
  (.cln [] (.seq (.reg [⟨some 4, .mov (.c (.bool false)), none⟩])
  (.ret)))))) }
/-- frustum/lexer.IsTypeWord -/
def p115 : PFn := { nparams := 1, ntmps := 6, nobjs := 0, pure := true, keep := false, results := [⟨2, none⟩], body := (.cln (List.range 1) (.seq (.reg [⟨some 2, .mov (.c (.bool false)), none⟩])
  (.seq (.reg [⟨some 3, .mov (.t 0), none⟩,
    ⟨some 4, .load none (.g 2), none⟩,
    ⟨some 5, .call (.c (.fn 116 [] [])) [.t 3, .t 4], none⟩,
    ⟨some 2, .mov (.t 5), none⟩])
  (.ret)))) }
/-- frustum/lexer.IsKeyword -/
def p85 : PFn := { nparams := 1, ntmps := 10, nobjs := 0, pure := true, keep := false, results := [⟨2, none⟩], body := (.cln (List.range 1) (.seq (.reg [⟨some 2, .mov (.c (.bool false)), none⟩])
  (.seq (.reg [⟨some 3, .mov (.t 0), none⟩,
    ⟨some 4, .call (.c (.fn 115 [] [])) [.t 3], none⟩,
    ⟨some 5, .mov (.t 4), none⟩,
    ⟨some 6, .mov (.t 0), some (5, false)⟩,
    ⟨some 7, .load none (.g 0), some (5, false)⟩,
    ⟨some 8, .call (.c (.fn 116 [] [])) [.t 6, .t 7], some (5, false)⟩,
    ⟨some 9, .pick (.t 5) (.c (.bool true)) (.t 8), none⟩,
    ⟨some 2, .mov (.t 9), none⟩])
  (.ret)))) }
def p158l0 : PC := .loop (.cln [0, 1, 7, 8] (.seq (.reg [⟨some 9, .bini .lss (.t 8) (.t 7), none⟩])
  (.seq (.cond (.t 9) (.skip) (.exit 0))
  (.cln [0, 1, 7, 8] (.seq (.block 1 (.seq (.reg [⟨some 10, .mov (.t 8), none⟩,
    ⟨some 5, .mov (.t 10), none⟩])
  (.seq (.reg [⟨some 11, .mov (.t 1), none⟩,
    ⟨some 12, .mov (.t 0), none⟩,
    ⟨some 13, .mov (.t 5), none⟩,
    ⟨some 14, .iaddr 1 (.t 12) (.t 13), none⟩,
    ⟨some 15, .load none (.t 14), none⟩,
    ⟨some 16, .bins .eql (.t 11) (.t 15), none⟩])
  (.cond (.t 16) (.seq (.reg [⟨some 17, .mov (.t 5), none⟩,
    ⟨some 4, .mov (.t 17), none⟩])
  (.ret)) (.skip)))))
  (.cln [0, 1, 7, 8] (.reg [⟨some 18, .bini .add (.t 8) (.c (.int .i64 1)), none⟩,
    ⟨some 8, .mov (.t 18), none⟩])))))))
/-- slices.Index[[]string,string] -/
def p158 : PFn := { nparams := 2, ntmps := 19, nobjs := 0, pure := true, keep := false, results := [⟨4, none⟩], body := (.cln (List.range 2) (.seq (.reg [⟨some 4, .mov (.c (.int .i64 0)), none⟩])
  (.seq (.seq (.reg [⟨some 6, .mov (.t 0), none⟩,
    ⟨some 7, .lenl (.t 6), none⟩,
    ⟨some 8, .mov (.c (.int .i64 0)), none⟩])
  (.block 0 (p158l0)))
  (.cln [] (.seq (.reg [⟨some 4, .mov (.c (.int .i64 (-1))), none⟩])
  (.ret)))))) }
/-- slices.Contains[[]string,string] -/
def p117 : PFn := { nparams := 2, ntmps := 9, nobjs := 0, pure := true, keep := false, results := [⟨4, none⟩], body := (.cln (List.range 2) (.seq (.reg [⟨some 4, .mov (.c (.bool false)), none⟩])
  (.seq (.reg [⟨some 5, .mov (.t 0), none⟩,
    ⟨some 6, .mov (.t 1), none⟩,
    ⟨some 7, .call (.c (.fn 158 [] [])) [.t 5, .t 6], none⟩,
    ⟨some 8, .bini .geq (.t 7) (.c (.int .i64 0)), none⟩,
    ⟨some 4, .mov (.t 8), none⟩])
  (.ret)))) }
/-- frustum/types.isBuiltin -/
def p86 : PFn := { nparams := 1, ntmps := 6, nobjs := 0, pure := true, keep := false, results := [⟨2, none⟩], body := (.cln (List.range 1) (.seq (.reg [⟨some 2, .mov (.c (.bool false)), none⟩])
  (.seq (.reg [⟨some 3, .load none (.g 1), none⟩,
    ⟨some 4, .mov (.t 0), none⟩,
    ⟨some 5, .call (.c (.fn 117 [] [])) [.t 3, .t 4], none⟩,
    ⟨some 2, .mov (.t 5), none⟩])
  (.ret)))) }
/-- frustum/types.isName -/
def p52 : PFn := { nparams := 1, ntmps := 15, nobjs := 0, pure := true, keep := false, results := [⟨2, none⟩], body := (.cln (List.range 1) (.seq (.reg [⟨some 2, .mov (.c (.bool false)), none⟩])
  (.seq (.reg [⟨some 3, .mov (.t 0), none⟩,
    ⟨some 4, .call (.c (.fn 84 [] [])) [.t 3], none⟩,
    ⟨some 5, .mov (.t 4), none⟩,
    ⟨some 6, .mov (.t 0), some (5, true)⟩,
    ⟨some 7, .call (.c (.fn 85 [] [])) [.t 6], some (5, true)⟩,
    ⟨some 8, .notb (.t 7), some (5, true)⟩,
    ⟨some 9, .pick (.t 5) (.t 8) (.c (.bool false)), none⟩,
    ⟨some 10, .mov (.t 9), none⟩,
    ⟨some 11, .mov (.t 0), some (10, true)⟩,
    ⟨some 12, .call (.c (.fn 86 [] [])) [.t 11], some (10, true)⟩,
    ⟨some 13, .notb (.t 12), some (10, true)⟩,
    ⟨some 14, .pick (.t 10) (.t 13) (.c (.bool false)), none⟩,
    ⟨some 2, .mov (.t 14), none⟩])
  (.ret)))) }
/-- (*frustum/types.checker).declare -/
def p51 : PFn := { nparams := 2, ntmps := 21, nobjs := 0, pure := false, keep := false, results := [⟨4, none⟩], body := (.cln (List.range 2) (.seq (.reg [⟨some 4, .mov (.c (.int .i64 0)), none⟩])
  (.seq (.seq (.reg [⟨some 5, .mov (.t 1), none⟩,
    ⟨some 6, .call (.c (.fn 52 [] [])) [.t 5], none⟩,
    ⟨some 7, .notb (.t 6), none⟩,
    ⟨some 8, .mov (.t 7), none⟩,
    ⟨some 9, .mov (.t 0), some (8, false)⟩,
    ⟨some 10, .nilc (.t 9), some (8, false)⟩,
    ⟨some 11, .faddr 9 (.t 10), some (8, false)⟩,
    ⟨some 12, .load none (.t 11), some (8, false)⟩,
    ⟨some 13, .mov (.t 1), some (8, false)⟩,
    ⟨some 14, .lookup true (.bool false) false (.t 12) (.t 13), some (8, false)⟩,
    ⟨some 15, .pick (.t 8) (.c (.bool true)) (.t 14), none⟩])
  (.cond (.t 15) (.seq (.reg [⟨some 4, .mov (.c (.int .i64 13)), none⟩])
  (.ret)) (.skip)))
  (.cln [0, 1] (.seq (.reg [⟨some 16, .mov (.t 0), none⟩,
    ⟨some 17, .nilc (.t 16), none⟩,
    ⟨some 18, .faddr 9 (.t 17), none⟩,
    ⟨some 19, .load none (.t 18), none⟩,
    ⟨some 20, .mov (.t 1), none⟩,
    ⟨none, .mupd true (.t 19) (.t 20) (.c (.bool true)), none⟩])
  (.seq (.reg [⟨some 4, .mov (.c (.int .i64 0)), none⟩])
  (.ret))))))) }
/-- frustum/types.FindStruct$1 -/
def p78 : PFn := { nparams := 2, ntmps := 8, nobjs := 0, pure := true, keep := false, results := [⟨3, none⟩], body := (.cln (List.range 2) (.seq (.reg [⟨some 2, .boxi (.t 0), none⟩,
    ⟨some 3, .mov (.c (.bool false)), none⟩])
  (.seq (.reg [⟨some 4, .faddr 0 (.t 2), none⟩,
    ⟨some 5, .load none (.t 4), none⟩,
    ⟨some 6, .load none (.t 1), none⟩,
    ⟨some 7, .bins .eql (.t 5) (.t 6), none⟩,
    ⟨some 3, .mov (.t 7), none⟩])
  (.ret)))) }
def p77l0 : PC := .loop (.cln [0, 1, 7, 8] (.seq (.reg [⟨some 9, .bini .lss (.t 8) (.t 7), none⟩])
  (.seq (.cond (.t 9) (.skip) (.exit 0))
  (.cln [0, 1, 7, 8] (.seq (.block 1 (.seq (.reg [⟨some 10, .mov (.t 8), none⟩,
    ⟨some 5, .mov (.t 10), none⟩])
  (.seq (.reg [⟨some 11, .mov (.t 1), none⟩,
    ⟨some 12, .mov (.t 0), none⟩,
    ⟨some 13, .mov (.t 5), none⟩,
    ⟨some 14, .iaddr 2 (.t 12) (.t 13), none⟩,
    ⟨some 15, .load (some 2) (.t 14), none⟩,
    ⟨some 16, .call (.t 11) [.t 15], none⟩])
  (.cond (.t 16) (.seq (.reg [⟨some 17, .mov (.t 5), none⟩,
    ⟨some 4, .mov (.t 17), none⟩])
  (.ret)) (.skip)))))
  (.cln [0, 1, 7, 8] (.reg [⟨some 18, .bini .add (.t 8) (.c (.int .i64 1)), none⟩,
    ⟨some 8, .mov (.t 18), none⟩])))))))
/-- slices.IndexFunc[[]frustum/api.Struct,frustum/api.Struct] -/
def p77 : PFn := { nparams := 2, ntmps := 19, nobjs := 0, pure := true, keep := false, results := [⟨4, none⟩], body := (.cln (List.range 2) (.seq (.reg [⟨some 4, .mov (.c (.int .i64 0)), none⟩])
  (.seq (.seq (.reg [⟨some 6, .mov (.t 0), none⟩,
    ⟨some 7, .lenl (.t 6), none⟩,
    ⟨some 8, .mov (.c (.int .i64 0)), none⟩])
  (.block 0 (p77l0)))
  (.cln [] (.seq (.reg [⟨some 4, .mov (.c (.int .i64 (-1))), none⟩])
  (.ret)))))) }
/-- frustum/types.FindStruct -/
def p46 : PFn := { nparams := 2, ntmps := 9, nobjs := 0, pure := true, keep := false, results := [⟨4, none⟩], body := (.cln (List.range 2) (.seq (.reg [⟨some 2, .boxi (.t 0), none⟩,
    ⟨some 3, .boxi (.t 1), none⟩,
    ⟨some 4, .mov (.c (.int .i64 0)), none⟩])
  (.seq (.reg [⟨some 5, .faddr 1 (.t 2), none⟩,
    ⟨some 6, .load none (.t 5), none⟩,
    ⟨some 7, .mkfn 78 [] [.t 3], none⟩,
    ⟨some 8, .call (.c (.fn 77 [] [])) [.t 6, .t 7], none⟩,
    ⟨some 4, .mov (.t 8), none⟩])
  (.ret)))) }
/-- frustum/types.IsScalar -/
def p75 : PFn := { nparams := 1, ntmps := 11, nobjs := 0, pure := true, keep := false, results := [⟨2, none⟩], body := (.cln (List.range 1) (.seq (.reg [⟨some 1, .boxi (.t 0), none⟩,
    ⟨some 2, .mov (.c (.bool false)), none⟩])
  (.seq (.reg [⟨some 3, .faddr 0 (.t 1), none⟩,
    ⟨some 4, .load none (.t 3), none⟩,
    ⟨some 5, .bini .geq (.t 4) (.c (.int .i64 1)), none⟩,
    ⟨some 6, .mov (.t 5), none⟩,
    ⟨some 7, .faddr 0 (.t 1), some (6, true)⟩,
    ⟨some 8, .load none (.t 7), some (6, true)⟩,
    ⟨some 9, .bini .leq (.t 8) (.c (.int .i64 4)), some (6, true)⟩,
    ⟨some 10, .pick (.t 6) (.t 9) (.c (.bool false)), none⟩,
    ⟨some 2, .mov (.t 10), none⟩])
  (.ret)))) }
/-- frustum/types.IsVector -/
def p76 : PFn := { nparams := 1, ntmps := 11, nobjs := 0, pure := true, keep := false, results := [⟨2, none⟩], body := (.cln (List.range 1) (.seq (.reg [⟨some 1, .boxi (.t 0), none⟩,
    ⟨some 2, .mov (.c (.bool false)), none⟩])
  (.seq (.reg [⟨some 3, .faddr 0 (.t 1), none⟩,
    ⟨some 4, .load none (.t 3), none⟩,
    ⟨some 5, .bini .geq (.t 4) (.c (.int .i64 5)), none⟩,
    ⟨some 6, .mov (.t 5), none⟩,
    ⟨some 7, .faddr 0 (.t 1), some (6, true)⟩,
    ⟨some 8, .load none (.t 7), some (6, true)⟩,
    ⟨some 9, .bini .leq (.t 8) (.c (.int .i64 7)), some (6, true)⟩,
    ⟨some 10, .pick (.t 6) (.t 9) (.c (.bool false)), none⟩,
    ⟨some 2, .mov (.t 10), none⟩])
  (.ret)))) }
/-- frustum/types.isValid -/
def p53 : PFn := { nparams := 2, ntmps := 25, nobjs := 0, pure := true, keep := false, results := [⟨4, none⟩], body := (.cln (List.range 2) (.seq (.reg [⟨some 3, .boxi (.t 1), none⟩,
    ⟨some 4, .mov (.c (.bool false)), none⟩])
  (.seq (.seq (.reg [⟨some 5, .faddr 0 (.t 3), none⟩,
    ⟨some 6, .load none (.t 5), none⟩,
    ⟨some 7, .bini .eql (.t 6) (.c (.int .i64 8)), none⟩])
  (.cond (.t 7) (.seq (.reg [⟨some 8, .frz (.t 0), none⟩,
    ⟨some 9, .build [.int .i64 0, .vs .nil [], .vs .nil [], .vs .nil [], .vs .nil [], .vs .nil [], .vs .nil [], .vs .nil [], .vs .nil []] [(1, 1, .t 8)], none⟩,
    ⟨some 10, .faddr 1 (.t 3), none⟩,
    ⟨some 11, .load none (.t 10), none⟩,
    ⟨some 12, .call (.c (.fn 46 [] [])) [.t 9, .t 11], none⟩,
    ⟨some 13, .bini .geq (.t 12) (.c (.int .i64 0)), none⟩,
    ⟨some 4, .mov (.t 13), none⟩])
  (.ret)) (.skip)))
  (.cln [3] (.seq (.reg [⟨some 14, .load (some 2) (.t 3), none⟩,
    ⟨some 15, .call (.c (.fn 75 [] [])) [.t 14], none⟩,
    ⟨some 16, .mov (.t 15), none⟩,
    ⟨some 17, .load (some 2) (.t 3), some (16, false)⟩,
    ⟨some 18, .call (.c (.fn 76 [] [])) [.t 17], some (16, false)⟩,
    ⟨some 19, .pick (.t 16) (.c (.bool true)) (.t 18), none⟩,
    ⟨some 20, .mov (.t 19), none⟩,
    ⟨some 21, .faddr 1 (.t 3), some (20, true)⟩,
    ⟨some 22, .load none (.t 21), some (20, true)⟩,
    ⟨some 23, .bins .eql (.t 22) (.c (.str [])), some (20, true)⟩,
    ⟨some 24, .pick (.t 20) (.t 23) (.c (.bool false)), none⟩,
    ⟨some 4, .mov (.t 24), none⟩])
  (.ret)))))) }
def p34l1 : PC := .loop (.cln [0, 3, 6, 13, 14, 15, 39, 40, 41] (.seq (.reg [⟨some 42, .bini .lss (.t 41) (.t 40), none⟩])
  (.seq (.cond (.t 42) (.skip) (.exit 2))
  (.cln [0, 3, 6, 13, 14, 15, 39, 40, 41] (.seq (.block 3 (.seq (.reg [⟨some 43, .iaddr 3 (.t 39) (.t 41), none⟩,
    ⟨some 44, .load (some 3) (.t 43), none⟩,
    ⟨some 8, .alloc 2 (.agg [.str [], .int .i64 0, .str []]), none⟩,
    ⟨none, .store (some 3) (.t 8) (.t 44), none⟩])
  (.seq (.seq (.reg [⟨some 45, .faddr 0 (.t 8), none⟩,
    ⟨some 46, .load none (.t 45), none⟩,
    ⟨some 47, .call (.c (.fn 52 [] [])) [.t 46], none⟩,
    ⟨some 48, .notb (.t 47), none⟩,
    ⟨some 49, .mov (.t 48), none⟩,
    ⟨some 50, .mov (.t 6), some (49, false)⟩,
    ⟨some 51, .faddr 0 (.t 8), some (49, false)⟩,
    ⟨some 52, .load none (.t 51), some (49, false)⟩,
    ⟨some 53, .lookup true (.bool false) false (.t 50) (.t 52), some (49, false)⟩,
    ⟨some 54, .pick (.t 49) (.c (.bool true)) (.t 53), none⟩])
  (.cond (.t 54) (.seq (.reg [⟨some 2, .mov (.c (.int .i64 13)), none⟩])
  (.ret)) (.skip)))
  (.cln [0, 3, 6, 8, 13, 14, 15, 39, 40, 41] (.seq (.seq (.regd [⟨0, ⟨some 55, .mov (.t 0), none⟩, false, [], []⟩,
    ⟨1, ⟨some 56, .nilc (.t 55), none⟩, false, [0], []⟩,
    ⟨2, ⟨some 57, .faddr 0 (.t 56), none⟩, false, [0, 1], []⟩,
    ⟨3, ⟨some 58, .faddr 1 (.t 57), none⟩, false, [0, 1, 2], []⟩,
    ⟨4, ⟨some 59, .load none (.t 58), none⟩, false, [0, 1, 2, 3], []⟩,
    ⟨5, ⟨some 60, .mov (.t 3), none⟩, false, [], []⟩,
    ⟨6, ⟨some 61, .slc 2 (.t 59) none (some (.t 60)) none, none⟩, false, .range 6, []⟩,
    ⟨7, ⟨some 62, .faddr 1 (.t 8), none⟩, false, [], []⟩,
    ⟨8, ⟨some 63, .load (some 2) (.t 62), none⟩, false, [7], []⟩,
    ⟨9, ⟨some 64, .call (.c (.fn 53 [] [])) [.t 61, .t 63], none⟩, true, .range 9, []⟩,
    ⟨10, ⟨some 65, .notb (.t 64), none⟩, false, .range 10, []⟩] (.range 11) 66)
  (.cond (.t 65) (.seq (.reg [⟨some 2, .mov (.c (.int .i64 12)), none⟩])
  (.ret)) (.skip)))
  (.cln [0, 3, 6, 8, 13, 14, 15, 39, 40, 41] (.reg [⟨some 66, .mov (.t 6), none⟩,
    ⟨some 67, .faddr 0 (.t 8), none⟩,
    ⟨some 68, .load none (.t 67), none⟩,
    ⟨none, .mupd true (.t 66) (.t 68) (.c (.bool true)), none⟩])))))))
  (.cln [0, 3, 6, 13, 14, 15, 39, 40, 41] (.reg [⟨some 69, .bini .add (.t 41) (.c (.int .i64 1)), none⟩,
    ⟨some 41, .mov (.t 69), none⟩])))))))
def p34l0 : PC := .loop (.cln [0, 13, 14, 15] (.seq (.reg [⟨some 16, .bini .lss (.t 15) (.t 14), none⟩])
  (.seq (.cond (.t 16) (.skip) (.exit 0))
  (.cln [0, 13, 14, 15] (.seq (.block 1 (.seq (.reg [⟨some 17, .mov (.t 15), none⟩,
    ⟨some 18, .iaddr 2 (.t 13) (.t 15), none⟩,
    ⟨some 19, .load (some 2) (.t 18), none⟩,
    ⟨some 4, .alloc 0 (.agg [.str [], .vs .nil []]), none⟩,
    ⟨some 3, .mov (.t 17), none⟩,
    ⟨none, .store (some 2) (.t 4) (.t 19), none⟩])
  (.seq (.seq (.reg [⟨some 20, .mov (.t 0), none⟩,
    ⟨some 21, .faddr 0 (.t 4), none⟩,
    ⟨some 22, .load none (.t 21), none⟩,
    ⟨some 23, .call (.c (.fn 51 [] [])) [.t 20, .t 22], none⟩,
    ⟨some 5, .mov (.t 23), none⟩])
  (.seq (.reg [⟨some 24, .mov (.t 5), none⟩,
    ⟨some 25, .bini .neq (.t 24) (.c (.int .i64 0)), none⟩])
  (.cond (.t 25) (.seq (.reg [⟨some 26, .mov (.t 5), none⟩,
    ⟨some 2, .mov (.t 26), none⟩])
  (.ret)) (.skip))))
  (.cln [0, 3, 4, 13, 14, 15] (.seq (.seq (.reg [⟨some 27, .faddr 1 (.t 4), none⟩,
    ⟨some 28, .load none (.t 27), none⟩,
    ⟨some 29, .lenl (.t 28), none⟩,
    ⟨some 30, .bini .eql (.t 29) (.c (.int .i64 0)), none⟩,
    ⟨some 31, .mov (.t 30), none⟩,
    ⟨some 32, .faddr 1 (.t 4), some (31, false)⟩,
    ⟨some 33, .load none (.t 32), some (31, false)⟩,
    ⟨some 34, .lenl (.t 33), some (31, false)⟩,
    ⟨some 35, .bini .gtr (.t 34) (.c (.int .i64 16)), some (31, false)⟩,
    ⟨some 36, .pick (.t 31) (.c (.bool true)) (.t 35), none⟩])
  (.cond (.t 36) (.seq (.reg [⟨some 2, .mov (.c (.int .i64 11)), none⟩])
  (.ret)) (.skip)))
  (.cln [0, 3, 4, 13, 14, 15] (.seq (.reg [⟨some 37, .mkmap 1, none⟩,
    ⟨some 6, .mov (.t 37), none⟩])
  (.seq (.reg [⟨some 38, .faddr 1 (.t 4), none⟩,
    ⟨some 39, .load none (.t 38), none⟩,
    ⟨some 40, .lenl (.t 39), none⟩,
    ⟨some 41, .mov (.c (.int .i64 0)), none⟩])
  (.block 2 (p34l1))))))))))
  (.cln [0, 13, 14, 15] (.reg [⟨some 70, .bini .add (.t 15) (.c (.int .i64 1)), none⟩,
    ⟨some 15, .mov (.t 70), none⟩])))))))
/-- (*frustum/types.checker).structs -/
def p34 : PFn := { nparams := 1, ntmps := 71, nobjs := 3, pure := false, keep := false, results := [⟨2, none⟩], body := (.cln (List.range 1) (.seq (.reg [⟨some 2, .mov (.c (.int .i64 0)), none⟩])
  (.seq (.seq (.reg [⟨some 9, .mov (.t 0), none⟩,
    ⟨some 10, .nilc (.t 9), none⟩,
    ⟨some 11, .faddr 0 (.t 10), none⟩,
    ⟨some 12, .faddr 1 (.t 11), none⟩,
    ⟨some 13, .load none (.t 12), none⟩,
    ⟨some 14, .lenl (.t 13), none⟩,
    ⟨some 15, .mov (.c (.int .i64 0)), none⟩])
  (.block 0 (p34l0)))
  (.cln [] (.seq (.reg [⟨some 2, .mov (.c (.int .i64 0)), none⟩])
  (.ret)))))) }
def p56l0 : PC := .loop (.cln [0, 8, 9, 10] (.seq (.reg [⟨some 11, .bini .lss (.t 10) (.t 9), none⟩])
  (.seq (.cond (.t 11) (.skip) (.exit 0))
  (.cln [0, 8, 9, 10] (.seq (.block 1 (.seq (.reg [⟨some 12, .iaddr 3 (.t 8) (.t 10), none⟩,
    ⟨some 13, .load (some 3) (.t 12), none⟩,
    ⟨some 6, .alloc 0 (.agg [.str [], .int .i64 0, .str []]), none⟩,
    ⟨none, .store (some 3) (.t 6) (.t 13), none⟩])
  (.seq (.seq (.reg [⟨some 14, .mov (.t 0), none⟩,
    ⟨some 15, .faddr 0 (.t 6), none⟩,
    ⟨some 16, .load none (.t 15), none⟩,
    ⟨some 17, .call (.c (.fn 51 [] [])) [.t 14, .t 16], none⟩,
    ⟨some 7, .mov (.t 17), none⟩])
  (.seq (.reg [⟨some 18, .mov (.t 7), none⟩,
    ⟨some 19, .bini .neq (.t 18) (.c (.int .i64 0)), none⟩])
  (.cond (.t 19) (.seq (.reg [⟨some 20, .mov (.t 7), none⟩,
    ⟨some 4, .mov (.t 20), none⟩])
  (.ret)) (.skip))))
  (.cln [0, 6, 8, 9, 10] (.seq (.regd [⟨0, ⟨some 21, .mov (.t 0), none⟩, false, [], []⟩,
    ⟨1, ⟨some 22, .nilc (.t 21), none⟩, false, [0], []⟩,
    ⟨2, ⟨some 23, .faddr 0 (.t 22), none⟩, false, [0, 1], []⟩,
    ⟨3, ⟨some 24, .faddr 1 (.t 23), none⟩, false, [0, 1, 2], []⟩,
    ⟨4, ⟨some 25, .load none (.t 24), none⟩, false, [0, 1, 2, 3], []⟩,
    ⟨5, ⟨some 26, .faddr 1 (.t 6), none⟩, false, [], []⟩,
    ⟨6, ⟨some 27, .load (some 2) (.t 26), none⟩, false, [5], []⟩,
    ⟨7, ⟨some 28, .call (.c (.fn 53 [] [])) [.t 25, .t 27], none⟩, true, .range 7, []⟩,
    ⟨8, ⟨some 29, .notb (.t 28), none⟩, false, .range 8, []⟩] (.range 9) 30)
  (.cond (.t 29) (.seq (.reg [⟨some 4, .mov (.c (.int .i64 12)), none⟩])
  (.ret)) (.skip)))))))
  (.cln [0, 8, 9, 10] (.reg [⟨some 30, .bini .add (.t 10) (.c (.int .i64 1)), none⟩,
    ⟨some 10, .mov (.t 30), none⟩])))))))
/-- (*frustum/types.checker).fields -/
def p56 : PFn := { nparams := 2, ntmps := 31, nobjs := 1, pure := false, keep := false, results := [⟨4, none⟩], body := (.cln (List.range 2) (.seq (.reg [⟨some 4, .mov (.c (.int .i64 0)), none⟩])
  (.seq (.seq (.reg [⟨some 8, .mov (.t 1), none⟩,
    ⟨some 9, .lenl (.t 8), none⟩,
    ⟨some 10, .mov (.c (.int .i64 0)), none⟩])
  (.block 0 (p56l0)))
  (.cln [] (.seq (.reg [⟨some 4, .mov (.c (.int .i64 0)), none⟩])
  (.ret)))))) }
/-- (*frustum/types.checker).globals$1$1 -/
def p55 : PFn := { nparams := 2, ntmps := 6, nobjs := 0, pure := false, keep := false, results := [⟨2, none⟩], body := (.cln (List.range 2) (.seq (.reg [⟨some 2, .mov (.c (.int .i64 0)), none⟩])
  (.seq (.reg [⟨some 3, .load none (.t 0), none⟩,
    ⟨some 4, .load none (.t 1), none⟩,
    ⟨some 5, .call (.c (.fn 56 [] [])) [.t 3, .t 4], none⟩,
    ⟨some 2, .mov (.t 5), none⟩])
  (.ret)))) }
/-- (*frustum/types.checker).globals$1 -/
def p54 : PFn := { nparams := 2, ntmps := 5, nobjs := 0, pure := false, keep := false, results := [⟨3, none⟩], body := (.cln (List.range 2) (.seq (.reg [⟨some 2, .boxi (.t 0), none⟩,
    ⟨some 3, .mov (.c (.nilfn)), none⟩])
  (.seq (.reg [⟨some 4, .mkfn 55 [] [.t 1, .t 2], none⟩,
    ⟨some 3, .mov (.t 4), none⟩])
  (.ret)))) }
def p59l0 : PC := .loop (.cln [0, 8, 9, 10] (.seq (.reg [⟨some 11, .bini .lss (.t 10) (.t 9), none⟩])
  (.seq (.cond (.t 11) (.skip) (.exit 0))
  (.cln [0, 8, 9, 10] (.seq (.block 1 (.seq (.reg [⟨some 12, .iaddr 1 (.t 8) (.t 10), none⟩,
    ⟨some 13, .load none (.t 12), none⟩,
    ⟨some 6, .mov (.t 13), none⟩])
  (.seq (.reg [⟨some 14, .mov (.t 0), none⟩,
    ⟨some 15, .mov (.t 6), none⟩,
    ⟨some 16, .call (.c (.fn 51 [] [])) [.t 14, .t 15], none⟩,
    ⟨some 7, .mov (.t 16), none⟩])
  (.seq (.reg [⟨some 17, .mov (.t 7), none⟩,
    ⟨some 18, .bini .neq (.t 17) (.c (.int .i64 0)), none⟩])
  (.cond (.t 18) (.seq (.reg [⟨some 19, .mov (.t 7), none⟩,
    ⟨some 4, .mov (.t 19), none⟩])
  (.ret)) (.skip))))))
  (.cln [0, 8, 9, 10] (.reg [⟨some 20, .bini .add (.t 10) (.c (.int .i64 1)), none⟩,
    ⟨some 10, .mov (.t 20), none⟩])))))))
/-- (*frustum/types.checker).names -/
def p59 : PFn := { nparams := 2, ntmps := 21, nobjs := 0, pure := false, keep := false, results := [⟨4, none⟩], body := (.cln (List.range 2) (.seq (.reg [⟨some 4, .mov (.c (.int .i64 0)), none⟩])
  (.seq (.seq (.reg [⟨some 8, .mov (.t 1), none⟩,
    ⟨some 9, .lenl (.t 8), none⟩,
    ⟨some 10, .mov (.c (.int .i64 0)), none⟩])
  (.block 0 (p59l0)))
  (.cln [] (.seq (.reg [⟨some 4, .mov (.c (.int .i64 0)), none⟩])
  (.ret)))))) }
/-- (*frustum/types.checker).globals$2$1 -/
def p58 : PFn := { nparams := 2, ntmps := 6, nobjs := 0, pure := false, keep := false, results := [⟨2, none⟩], body := (.cln (List.range 2) (.seq (.reg [⟨some 2, .mov (.c (.int .i64 0)), none⟩])
  (.seq (.reg [⟨some 3, .load none (.t 0), none⟩,
    ⟨some 4, .load none (.t 1), none⟩,
    ⟨some 5, .call (.c (.fn 59 [] [])) [.t 3, .t 4], none⟩,
    ⟨some 2, .mov (.t 5), none⟩])
  (.ret)))) }
/-- (*frustum/types.checker).globals$2 -/
def p57 : PFn := { nparams := 2, ntmps := 5, nobjs := 0, pure := false, keep := false, results := [⟨3, none⟩], body := (.cln (List.range 2) (.seq (.reg [⟨some 2, .boxi (.t 0), none⟩,
    ⟨some 3, .mov (.c (.nilfn)), none⟩])
  (.seq (.reg [⟨some 4, .mkfn 58 [] [.t 1, .t 2], none⟩,
    ⟨some 3, .mov (.t 4), none⟩])
  (.ret)))) }
def p32l0 : PC := .loop (.cln [6, 7, 8] (.seq (.reg [⟨some 9, .bini .lss (.t 8) (.t 7), none⟩])
  (.seq (.cond (.t 9) (.skip) (.exit 0))
  (.cln [6, 7, 8] (.seq (.block 1 (.seq (.reg [⟨some 10, .iaddr 1 (.t 6) (.t 8), none⟩,
    ⟨some 11, .load none (.t 10), none⟩,
    ⟨some 4, .mov (.t 11), none⟩])
  (.seq (.reg [⟨some 12, .mov (.t 4), none⟩,
    ⟨some 13, .call (.t 12) [], none⟩,
    ⟨some 5, .mov (.t 13), none⟩])
  (.seq (.reg [⟨some 14, .mov (.t 5), none⟩,
    ⟨some 15, .bini .neq (.t 14) (.c (.int .i64 0)), none⟩])
  (.cond (.t 15) (.seq (.reg [⟨some 16, .mov (.t 5), none⟩,
    ⟨some 2, .mov (.t 16), none⟩])
  (.ret)) (.skip))))))
  (.cln [6, 7, 8] (.reg [⟨some 17, .bini .add (.t 8) (.c (.int .i64 1)), none⟩,
    ⟨some 8, .mov (.t 17), none⟩])))))))
/-- frustum/types.first -/
def p32 : PFn := { nparams := 1, ntmps := 18, nobjs := 0, pure := false, keep := false, results := [⟨2, none⟩], body := (.cln (List.range 1) (.seq (.reg [⟨some 2, .mov (.c (.int .i64 0)), none⟩])
  (.seq (.seq (.reg [⟨some 6, .mov (.t 0), none⟩,
    ⟨some 7, .lenl (.t 6), none⟩,
    ⟨some 8, .mov (.c (.int .i64 0)), none⟩])
  (.block 0 (p32l0)))
  (.cln [] (.seq (.reg [⟨some 2, .mov (.c (.int .i64 0)), none⟩])
  (.ret)))))) }
/-- (*frustum/types.checker).globals -/
def p35 : PFn := { nparams := 1, ntmps := 44, nobjs := 2, pure := false, keep := false, results := [⟨2, none⟩], body := (.cln (List.range 1) (.seq (.reg [⟨some 1, .box 0 (.t 0), none⟩,
    ⟨some 2, .mov (.c (.int .i64 0)), none⟩])
  (.seq (.reg [⟨some 5, .mkfn 54 [] [.t 1], none⟩,
    ⟨some 3, .mov (.t 5), none⟩])
  (.seq (.reg [⟨some 6, .mkfn 57 [] [.t 1], none⟩,
    ⟨some 4, .mov (.t 6), none⟩])
  (.seq (.regd [⟨0, ⟨some 7, .mov (.t 3), none⟩, false, [], []⟩,
    ⟨1, ⟨some 8, .load none (.t 1), none⟩, false, [], []⟩,
    ⟨2, ⟨some 9, .nilc (.t 8), none⟩, false, [1], []⟩,
    ⟨3, ⟨some 10, .faddr 0 (.t 9), none⟩, false, [1, 2], []⟩,
    ⟨4, ⟨some 11, .faddr 2 (.t 10), none⟩, false, [1, 2, 3], []⟩,
    ⟨5, ⟨some 12, .load none (.t 11), none⟩, false, [1, 2, 3, 4], []⟩,
    ⟨7, ⟨some 14, .mov (.t 4), none⟩, false, [], []⟩,
    ⟨8, ⟨some 15, .load none (.t 1), none⟩, false, [], []⟩,
    ⟨9, ⟨some 16, .nilc (.t 15), none⟩, false, [8], []⟩,
    ⟨10, ⟨some 17, .faddr 0 (.t 16), none⟩, false, [8, 9], []⟩,
    ⟨11, ⟨some 18, .faddr 3 (.t 17), none⟩, false, [8, 9, 10], []⟩,
    ⟨12, ⟨some 19, .load none (.t 18), none⟩, false, [8, 9, 10, 11], []⟩,
    ⟨14, ⟨some 21, .mov (.t 4), none⟩, false, [], []⟩,
    ⟨15, ⟨some 22, .load none (.t 1), none⟩, false, [], []⟩,
    ⟨16, ⟨some 23, .nilc (.t 22), none⟩, false, [15], []⟩,
    ⟨17, ⟨some 24, .faddr 0 (.t 23), none⟩, false, [15, 16], []⟩,
    ⟨18, ⟨some 25, .faddr 4 (.t 24), none⟩, false, [15, 16, 17], []⟩,
    ⟨19, ⟨some 26, .load none (.t 25), none⟩, false, [15, 16, 17, 18], []⟩,
    ⟨21, ⟨some 28, .mov (.t 3), none⟩, false, [], []⟩,
    ⟨22, ⟨some 29, .load none (.t 1), none⟩, false, [], []⟩,
    ⟨23, ⟨some 30, .nilc (.t 29), none⟩, false, [22], []⟩,
    ⟨24, ⟨some 31, .faddr 0 (.t 30), none⟩, false, [22, 23], []⟩,
    ⟨25, ⟨some 32, .faddr 5 (.t 31), none⟩, false, [22, 23, 24], []⟩,
    ⟨26, ⟨some 33, .load none (.t 32), none⟩, false, [22, 23, 24, 25], []⟩,
    ⟨28, ⟨some 35, .mov (.t 3), none⟩, false, [], []⟩,
    ⟨29, ⟨some 36, .load none (.t 1), none⟩, false, [], []⟩,
    ⟨30, ⟨some 37, .nilc (.t 36), none⟩, false, [29], []⟩,
    ⟨31, ⟨some 38, .faddr 0 (.t 37), none⟩, false, [29, 30], []⟩,
    ⟨32, ⟨some 39, .faddr 6 (.t 38), none⟩, false, [29, 30, 31], []⟩,
    ⟨33, ⟨some 40, .load none (.t 39), none⟩, false, [29, 30, 31, 32], []⟩,
    ⟨6, ⟨some 13, .call (.t 7) [.t 12], none⟩, true, .range 6, [8, 9, 10, 11, 12, 15, 16, 17, 18, 19, 22, 23, 24, 25, 26, 29, 30, 31, 32, 33]⟩,
    ⟨13, ⟨some 20, .call (.t 14) [.t 19], none⟩, true, .range 13, [15, 16, 17, 18, 19, 22, 23, 24, 25, 26, 29, 30, 31, 32, 33]⟩,
    ⟨20, ⟨some 27, .call (.t 21) [.t 26], none⟩, true, .range 20, [22, 23, 24, 25, 26, 29, 30, 31, 32, 33]⟩,
    ⟨27, ⟨some 34, .call (.t 28) [.t 33], none⟩, true, .range 27, [29, 30, 31, 32, 33]⟩,
    ⟨34, ⟨some 41, .call (.t 35) [.t 40], none⟩, true, .range 34, []⟩,
    ⟨35, ⟨some 42, .bslm 1 false 1 [.nilfn, .nilfn, .nilfn, .nilfn, .nilfn] [(0, .t 13), (1, .t 20), (2, .t 27), (3, .t 34), (4, .t 41)], none⟩, false, .range 35, []⟩,
    ⟨36, ⟨some 43, .call (.c (.fn 32 [] [])) [.t 42], none⟩, true, .range 36, []⟩,
    ⟨37, ⟨some 2, .mov (.t 43), none⟩, false, .range 37, []⟩] (.range 38) 44)
  (.ret)))))) }
/-- frustum/types.plainSize -/
def p45 : PFn := { nparams := 1, ntmps := 13, nobjs := 0, pure := true, keep := false, results := [⟨2, none⟩], body := (.cln (List.range 1) (.seq (.reg [⟨some 1, .boxi (.t 0), none⟩,
    ⟨some 2, .mov (.c (.int .i64 0)), none⟩])
  (.seq (.block 0 (.seq (.reg [⟨some 4, .load (some 2) (.t 1), none⟩,
    ⟨some 5, .call (.c (.fn 75 [] [])) [.t 4], none⟩,
    ⟨some 3, .mov (.t 5), none⟩])
  (.cond (.t 3) (.seq (.reg [⟨some 2, .mov (.c (.int .i64 1)), none⟩])
  (.ret)) (.seq (.reg [⟨some 7, .load (some 2) (.t 1), none⟩,
    ⟨some 8, .call (.c (.fn 76 [] [])) [.t 7], none⟩,
    ⟨some 6, .mov (.t 8), none⟩])
  (.cond (.t 6) (.seq (.reg [⟨some 9, .faddr 0 (.t 1), none⟩,
    ⟨some 10, .load none (.t 9), none⟩,
    ⟨some 11, .bini .sub (.t 10) (.c (.int .i64 5)), none⟩,
    ⟨some 12, .bini .add (.t 11) (.c (.int .i64 2)), none⟩,
    ⟨some 2, .mov (.t 12), none⟩])
  (.ret)) (.skip))))))
  (.cln [] (.seq (.reg [⟨some 2, .mov (.c (.int .i64 0)), none⟩])
  (.ret)))))) }
def p47l1 : PC := .loop (.cln [1, 3, 4, 15, 16, 17, 23, 24, 25] (.seq (.reg [⟨some 26, .bini .lss (.t 25) (.t 24), none⟩])
  (.seq (.cond (.t 26) (.skip) (.exit 2))
  (.cln [1, 3, 4, 15, 16, 17, 23, 24, 25] (.seq (.block 3 (.seq (.reg [⟨some 27, .iaddr 3 (.t 23) (.t 25), none⟩,
    ⟨some 28, .load (some 3) (.t 27), none⟩,
    ⟨some 7, .alloc 2 (.agg [.str [], .int .i64 0, .str []]), none⟩,
    ⟨none, .store (some 3) (.t 7) (.t 28), none⟩])
  (.seq (.reg [⟨some 8, .mov (.c (.int .i64 0)), none⟩])
  (.seq (.seq (.reg [⟨some 29, .faddr 1 (.t 7), none⟩,
    ⟨some 30, .faddr 0 (.t 29), none⟩,
    ⟨some 31, .load none (.t 30), none⟩,
    ⟨some 32, .bini .neq (.t 31) (.c (.int .i64 8)), none⟩])
  (.cond (.t 32) (.reg [⟨some 33, .faddr 1 (.t 7), none⟩,
    ⟨some 34, .load (some 2) (.t 33), none⟩,
    ⟨some 35, .call (.c (.fn 45 [] [])) [.t 34], none⟩,
    ⟨some 8, .mov (.t 35), none⟩]) (.seq (.reg [⟨some 36, .load (some 9) (.t 1), none⟩,
    ⟨some 37, .faddr 1 (.t 7), none⟩,
    ⟨some 38, .faddr 1 (.t 37), none⟩,
    ⟨some 39, .load none (.t 38), none⟩,
    ⟨some 40, .call (.c (.fn 46 [] [])) [.t 36, .t 39], none⟩,
    ⟨some 9, .mov (.t 40), none⟩])
  (.seq (.reg [⟨some 41, .mov (.t 9), none⟩,
    ⟨some 42, .bini .geq (.t 41) (.c (.int .i64 0)), none⟩,
    ⟨some 43, .mov (.t 42), none⟩,
    ⟨some 44, .mov (.t 9), some (43, true)⟩,
    ⟨some 45, .mov (.t 4), some (43, true)⟩,
    ⟨some 46, .bini .lss (.t 44) (.t 45), some (43, true)⟩,
    ⟨some 47, .pick (.t 43) (.t 46) (.c (.bool false)), none⟩])
  (.cond (.t 47) (.reg [⟨some 48, .mov (.t 3), none⟩,
    ⟨some 49, .mov (.t 9), none⟩,
    ⟨some 50, .iaddr 1 (.t 48) (.t 49), none⟩,
    ⟨some 51, .load none (.t 50), none⟩,
    ⟨some 8, .mov (.t 51), none⟩]) (.skip))))))
  (.cln [1, 3, 4, 8, 15, 16, 17, 23, 24, 25] (.reg [⟨some 52, .mov (.t 3), none⟩,
    ⟨some 53, .mov (.t 4), none⟩,
    ⟨some 54, .mov (.t 3), none⟩,
    ⟨some 55, .mov (.t 4), none⟩,
    ⟨some 56, .iaddr 1 (.t 54) (.t 55), none⟩,
    ⟨some 57, .load none (.t 56), none⟩,
    ⟨some 58, .mov (.t 8), none⟩,
    ⟨some 59, .bini .add (.t 57) (.t 58), none⟩,
    ⟨some 60, .mn (.c (.int .i64 1000)) [.t 59], none⟩,
    ⟨some 61, .iaddr 1 (.t 52) (.t 53), none⟩,
    ⟨none, .store none (.t 61) (.t 60), none⟩]))))))
  (.cln [1, 3, 4, 15, 16, 17, 23, 24, 25] (.reg [⟨some 62, .bini .add (.t 25) (.c (.int .i64 1)), none⟩,
    ⟨some 25, .mov (.t 62), none⟩])))))))
def p47l0 : PC := .loop (.cln [1, 3, 15, 16, 17] (.seq (.reg [⟨some 18, .bini .lss (.t 17) (.t 16), none⟩])
  (.seq (.cond (.t 18) (.skip) (.exit 0))
  (.cln [1, 3, 15, 16, 17] (.seq (.block 1 (.seq (.reg [⟨some 19, .mov (.t 17), none⟩,
    ⟨some 20, .iaddr 2 (.t 15) (.t 17), none⟩,
    ⟨some 21, .load (some 2) (.t 20), none⟩,
    ⟨some 5, .alloc 1 (.agg [.str [], .vs .nil []]), none⟩,
    ⟨some 4, .mov (.t 19), none⟩,
    ⟨none, .store (some 2) (.t 5) (.t 21), none⟩])
  (.seq (.reg [⟨some 22, .faddr 1 (.t 5), none⟩,
    ⟨some 23, .load none (.t 22), none⟩,
    ⟨some 24, .lenl (.t 23), none⟩,
    ⟨some 25, .mov (.c (.int .i64 0)), none⟩])
  (.block 2 (p47l1)))))
  (.cln [1, 3, 15, 16, 17] (.reg [⟨some 63, .bini .add (.t 17) (.c (.int .i64 1)), none⟩,
    ⟨some 17, .mov (.t 63), none⟩])))))))
/-- frustum/types.sizes -/
def p47 : PFn := { nparams := 1, ntmps := 65, nobjs := 3, pure := true, keep := false, results := [⟨2, none⟩], body := (.cln (List.range 1) (.seq (.reg [⟨some 1, .boxi (.t 0), none⟩,
    ⟨some 2, .mov (.c (.vs .nil [])), none⟩])
  (.seq (.reg [⟨some 10, .faddr 1 (.t 1), none⟩,
    ⟨some 11, .load none (.t 10), none⟩,
    ⟨some 12, .lenl (.t 11), none⟩,
    ⟨some 13, .mkslice 0 true 8 (.int .i64 0) (.t 12) (.t 12), none⟩,
    ⟨some 3, .mov (.t 13), none⟩])
  (.seq (.seq (.reg [⟨some 14, .faddr 1 (.t 1), none⟩,
    ⟨some 15, .load none (.t 14), none⟩,
    ⟨some 16, .lenl (.t 15), none⟩,
    ⟨some 17, .mov (.c (.int .i64 0)), none⟩])
  (.block 0 (p47l0)))
  (.cln [3] (.seq (.reg [⟨some 64, .frz (.t 3), none⟩,
    ⟨some 2, .mov (.t 64), none⟩])
  (.ret))))))) }
/-- frustum/types.Components -/
def p30 : PFn := { nparams := 2, ntmps := 22, nobjs := 0, pure := true, keep := false, results := [⟨4, none⟩], body := (.cln (List.range 2) (.seq (.reg [⟨some 2, .boxi (.t 0), none⟩,
    ⟨some 3, .boxi (.t 1), none⟩,
    ⟨some 4, .mov (.c (.int .i64 0)), none⟩])
  (.seq (.seq (.reg [⟨some 6, .faddr 0 (.t 3), none⟩,
    ⟨some 7, .load none (.t 6), none⟩,
    ⟨some 8, .bini .neq (.t 7) (.c (.int .i64 8)), none⟩])
  (.cond (.t 8) (.seq (.reg [⟨some 9, .load (some 2) (.t 3), none⟩,
    ⟨some 10, .call (.c (.fn 45 [] [])) [.t 9], none⟩,
    ⟨some 4, .mov (.t 10), none⟩])
  (.ret)) (.skip)))
  (.cln [2, 3] (.seq (.seq (.reg [⟨some 11, .load (some 9) (.t 2), none⟩,
    ⟨some 12, .faddr 1 (.t 3), none⟩,
    ⟨some 13, .load none (.t 12), none⟩,
    ⟨some 14, .call (.c (.fn 46 [] [])) [.t 11, .t 13], none⟩,
    ⟨some 5, .mov (.t 14), none⟩])
  (.seq (.reg [⟨some 15, .mov (.t 5), none⟩,
    ⟨some 16, .bini .geq (.t 15) (.c (.int .i64 0)), none⟩])
  (.cond (.t 16) (.seq (.reg [⟨some 17, .load (some 9) (.t 2), none⟩,
    ⟨some 18, .call (.c (.fn 47 [] [])) [.t 17], none⟩,
    ⟨some 19, .mov (.t 5), none⟩,
    ⟨some 20, .iaddr 1 (.t 18) (.t 19), none⟩,
    ⟨some 21, .load none (.t 20), none⟩,
    ⟨some 4, .mov (.t 21), none⟩])
  (.ret)) (.skip))))
  (.cln [] (.seq (.reg [⟨some 4, .mov (.c (.int .i64 0)), none⟩])
  (.ret)))))))) }
def p15l0 : PC := .loop (.cln [2, 5, 8, 9, 10] (.seq (.reg [⟨some 11, .bini .lss (.t 10) (.t 9), none⟩])
  (.seq (.cond (.t 11) (.skip) (.exit 0))
  (.cln [2, 5, 8, 9, 10] (.seq (.block 1 (.seq (.reg [⟨some 12, .iaddr 3 (.t 8) (.t 10), none⟩,
    ⟨some 13, .load (some 3) (.t 12), none⟩,
    ⟨some 7, .alloc 0 (.agg [.str [], .int .i64 0, .str []]), none⟩,
    ⟨none, .store (some 3) (.t 7) (.t 13), none⟩])
  (.reg [⟨some 14, .mov (.t 5), none⟩,
    ⟨some 15, .load (some 9) (.t 2), none⟩,
    ⟨some 16, .faddr 1 (.t 7), none⟩,
    ⟨some 17, .load (some 2) (.t 16), none⟩,
    ⟨some 18, .call (.c (.fn 30 [] [])) [.t 15, .t 17], none⟩,
    ⟨some 19, .bini .add (.t 14) (.t 18), none⟩,
    ⟨some 20, .mn (.c (.int .i64 1000)) [.t 19], none⟩,
    ⟨some 5, .mov (.t 20), none⟩])))
  (.cln [2, 5, 8, 9, 10] (.reg [⟨some 21, .bini .add (.t 10) (.c (.int .i64 1)), none⟩,
    ⟨some 10, .mov (.t 21), none⟩])))))))
/-- frustum/types.Total -/
def p15 : PFn := { nparams := 2, ntmps := 23, nobjs := 1, pure := true, keep := false, results := [⟨4, none⟩], body := (.cln (List.range 2) (.seq (.reg [⟨some 2, .boxi (.t 0), none⟩,
    ⟨some 4, .mov (.c (.int .i64 0)), none⟩])
  (.seq (.reg [⟨some 5, .mov (.c (.int .i64 0)), none⟩])
  (.seq (.seq (.reg [⟨some 8, .mov (.t 1), none⟩,
    ⟨some 9, .lenl (.t 8), none⟩,
    ⟨some 10, .mov (.c (.int .i64 0)), none⟩])
  (.block 0 (p15l0)))
  (.cln [5] (.seq (.reg [⟨some 22, .mov (.t 5), none⟩,
    ⟨some 4, .mov (.t 22), none⟩])
  (.ret))))))) }
/-- (*frustum/types.checker).totals -/
def p36 : PFn := { nparams := 1, ntmps := 28, nobjs := 1, pure := false, keep := false, results := [⟨2, none⟩], body := (.cln (List.range 1) (.seq (.reg [⟨some 2, .mov (.c (.int .i64 0)), none⟩])
  (.seq (.reg [⟨some 4, .mov (.t 0), none⟩,
    ⟨some 5, .nilc (.t 4), none⟩,
    ⟨some 6, .faddr 0 (.t 5), none⟩,
    ⟨some 7, .load (some 9) (.t 6), none⟩,
    ⟨some 3, .alloc 0 (.agg [.int .i64 0, .vs .nil [], .vs .nil [], .vs .nil [], .vs .nil [], .vs .nil [], .vs .nil [], .vs .nil [], .vs .nil []]), none⟩,
    ⟨none, .store (some 9) (.t 3) (.t 7), none⟩])
  (.seq (.reg [⟨some 8, .load (some 9) (.t 3), none⟩,
    ⟨some 9, .faddr 2 (.t 3), none⟩,
    ⟨some 10, .load none (.t 9), none⟩,
    ⟨some 11, .call (.c (.fn 15 [] [])) [.t 8, .t 10], none⟩,
    ⟨some 12, .bini .gtr (.t 11) (.c (.int .i64 64)), none⟩,
    ⟨some 13, .mov (.t 12), none⟩,
    ⟨some 14, .load (some 9) (.t 3), some (13, false)⟩,
    ⟨some 15, .faddr 5 (.t 3), some (13, false)⟩,
    ⟨some 16, .load none (.t 15), some (13, false)⟩,
    ⟨some 17, .call (.c (.fn 15 [] [])) [.t 14, .t 16], some (13, false)⟩,
    ⟨some 18, .bini .gtr (.t 17) (.c (.int .i64 32)), some (13, false)⟩,
    ⟨some 19, .pick (.t 13) (.c (.bool true)) (.t 18), none⟩,
    ⟨some 20, .mov (.t 19), none⟩,
    ⟨some 21, .load (some 9) (.t 3), some (20, false)⟩,
    ⟨some 22, .faddr 6 (.t 3), some (20, false)⟩,
    ⟨some 23, .load none (.t 22), some (20, false)⟩,
    ⟨some 24, .call (.c (.fn 15 [] [])) [.t 21, .t 23], some (20, false)⟩,
    ⟨some 25, .bini .gtr (.t 24) (.c (.int .i64 32)), some (20, false)⟩,
    ⟨some 26, .pick (.t 20) (.c (.bool true)) (.t 25), none⟩,
    ⟨some 27, .call (.c (.fn 40 [] [])) [.t 26, .c (.int .i64 5)], none⟩,
    ⟨some 2, .mov (.t 27), none⟩])
  (.ret))))) }
/-- frustum/types.within -/
def p61 : PFn := { nparams := 2, ntmps := 12, nobjs := 2, pure := true, keep := false, results := [⟨4, some (some 9)⟩], body := (.cln (List.range 2) (.seq (.reg [⟨some 2, .box 0 (.t 0), none⟩,
    ⟨some 4, .alloc 1 (.agg [.int .i64 0, .vs .nil [], .vs .nil [], .vs .nil [], .vs .nil [], .vs .nil [], .vs .nil [], .vs .nil [], .vs .nil []]), none⟩])
  (.seq (.reg [⟨some 5, .faddr 6 (.t 2), none⟩,
    ⟨none, .store none (.t 5) (.c (.vs .nil [])), none⟩])
  (.seq (.reg [⟨some 6, .faddr 7 (.t 2), none⟩,
    ⟨some 7, .load none (.t 6), none⟩,
    ⟨some 8, .mov (.t 1), none⟩,
    ⟨some 9, .slc 10 (.t 7) none (some (.t 8)) none, none⟩,
    ⟨some 10, .faddr 7 (.t 2), none⟩,
    ⟨none, .store none (.t 10) (.t 9), none⟩])
  (.seq (.reg [⟨some 11, .load (some 9) (.t 2), none⟩,
    ⟨none, .store (some 9) (.t 4) (.t 11), none⟩])
  (.ret)))))) }
/-- slices.Clone[[]frustum/api.Field,frustum/api.Field] -/
def p87 : PFn := { nparams := 1, ntmps := 8, nobjs := 1, pure := true, keep := false, results := [⟨2, none⟩], body := (.cln (List.range 1) (.seq (.reg [⟨some 2, .mov (.c (.vs .nil [])), none⟩])
  (.seq (.seq (.reg [⟨some 3, .mov (.t 0), none⟩,
    ⟨some 4, .eqnil 0 false (.t 3), none⟩])
  (.cond (.t 4) (.seq (.reg [⟨some 2, .mov (.c (.vs .nil [])), none⟩])
  (.ret)) (.skip)))
  (.cln [0] (.seq (.reg [⟨some 5, .bsl [] [], none⟩,
    ⟨some 6, .mov (.t 0), none⟩,
    ⟨some 7, .append 0 true 3 40 (.t 5) (.t 6), none⟩,
    ⟨some 2, .mov (.t 7), none⟩])
  (.ret)))))) }
/-- slices.Grow[[]string,string] -/
def p118 : PFn := { nparams := 2, ntmps := 27, nobjs := 0, pure := true, keep := false, results := [⟨4, none⟩], body := (.cln (List.range 2) (.seq (.reg [⟨some 4, .mov (.c (.vs .nil [])), none⟩])
  (.seq (.seq (.reg [⟨some 5, .mov (.t 1), none⟩,
    ⟨some 6, .bini .lss (.t 5) (.c (.int .i64 0)), none⟩])
  (.cond (.t 6) (.reg [⟨some 7, .stop, none⟩,
    ⟨none, .stop, none⟩]) (.skip)))
  (.cln [0, 1] (.seq (.seq (.reg [⟨some 8, .mov (.t 1), none⟩,
    ⟨some 9, .mov (.t 0), none⟩,
    ⟨some 10, .capl (.t 9), none⟩,
    ⟨some 11, .mov (.t 0), none⟩,
    ⟨some 12, .lenl (.t 11), none⟩,
    ⟨some 13, .bini .sub (.t 10) (.t 12), none⟩,
    ⟨some 14, .bini .sub (.t 8) (.t 13), none⟩,
    ⟨some 1, .mov (.t 14), none⟩])
  (.seq (.reg [⟨some 15, .mov (.t 1), none⟩,
    ⟨some 16, .bini .gtr (.t 15) (.c (.int .i64 0)), none⟩])
  (.cond (.t 16) (.reg [⟨some 17, .mov (.t 0), none⟩,
    ⟨some 18, .mov (.t 0), none⟩,
    ⟨some 19, .capl (.t 18), none⟩,
    ⟨some 20, .slc 1 (.t 17) none (some (.t 19)) none, none⟩,
    ⟨some 21, .mov (.t 1), none⟩,
    ⟨some 22, .stop, none⟩,
    ⟨some 23, .mov (.t 0), none⟩,
    ⟨some 24, .lenl (.t 23), none⟩,
    ⟨some 25, .slc 1 (.t 22) none (some (.t 24)) none, none⟩,
    ⟨some 0, .mov (.t 25), none⟩]) (.skip))))
  (.cln [0] (.seq (.reg [⟨some 26, .frz (.t 0), none⟩,
    ⟨some 4, .mov (.t 26), none⟩])
  (.ret)))))))) }
def p88l0 : PC := .loop (.cln [0, 3, 9, 10, 11] (.seq (.reg [⟨some 12, .bini .lss (.t 11) (.t 10), none⟩])
  (.seq (.cond (.t 12) (.skip) (.exit 0))
  (.cln [0, 3, 9, 10, 11] (.seq (.block 1 (.seq (.reg [⟨some 13, .iaddr 1 (.t 9) (.t 11), none⟩,
    ⟨some 14, .load none (.t 13), none⟩,
    ⟨some 5, .mov (.t 14), none⟩])
  (.seq (.reg [⟨some 15, .mov (.t 3), none⟩,
    ⟨some 16, .mov (.t 5), none⟩,
    ⟨some 17, .lenl (.t 16), none⟩,
    ⟨some 18, .bini .add (.t 15) (.t 17), none⟩,
    ⟨some 3, .mov (.t 18), none⟩])
  (.seq (.reg [⟨some 19, .mov (.t 3), none⟩,
    ⟨some 20, .bini .lss (.t 19) (.c (.int .i64 0)), none⟩])
  (.cond (.t 20) (.reg [⟨some 21, .stop, none⟩,
    ⟨none, .stop, none⟩]) (.skip))))))
  (.cln [0, 3, 9, 10, 11] (.reg [⟨some 22, .bini .add (.t 11) (.c (.int .i64 1)), none⟩,
    ⟨some 11, .mov (.t 22), none⟩])))))))
def p88l1 : PC := .loop (.cln [6, 25, 26, 27] (.seq (.reg [⟨some 28, .bini .lss (.t 27) (.t 26), none⟩])
  (.seq (.cond (.t 28) (.skip) (.exit 2))
  (.cln [6, 25, 26, 27] (.seq (.block 3 (.seq (.reg [⟨some 29, .iaddr 1 (.t 25) (.t 27), none⟩,
    ⟨some 30, .load none (.t 29), none⟩,
    ⟨some 8, .mov (.t 30), none⟩])
  (.reg [⟨some 31, .mov (.t 6), none⟩,
    ⟨some 32, .mov (.t 8), none⟩,
    ⟨some 33, .append 0 true 1 16 (.t 31) (.t 32), none⟩,
    ⟨some 6, .mov (.t 33), none⟩])))
  (.cln [6, 25, 26, 27] (.reg [⟨some 34, .bini .add (.t 27) (.c (.int .i64 1)), none⟩,
    ⟨some 27, .mov (.t 34), none⟩])))))))
/-- slices.Concat[[]string,string] -/
def p88 : PFn := { nparams := 1, ntmps := 36, nobjs := 1, pure := true, keep := false, results := [⟨2, none⟩], body := (.cln (List.range 1) (.seq (.reg [⟨some 2, .mov (.c (.vs .nil [])), none⟩])
  (.seq (.reg [⟨some 3, .mov (.c (.int .i64 0)), none⟩])
  (.seq (.seq (.reg [⟨some 9, .mov (.t 0), none⟩,
    ⟨some 10, .lenl (.t 9), none⟩,
    ⟨some 11, .mov (.c (.int .i64 0)), none⟩])
  (.block 0 (p88l0)))
  (.cln [0, 3] (.seq (.reg [⟨some 23, .mov (.t 3), none⟩,
    ⟨some 24, .call (.c (.fn 118 [] [])) [.c (.vs .nil []), .t 23], none⟩,
    ⟨some 6, .mov (.t 24), none⟩])
  (.seq (.seq (.reg [⟨some 25, .mov (.t 0), none⟩,
    ⟨some 26, .lenl (.t 25), none⟩,
    ⟨some 27, .mov (.c (.int .i64 0)), none⟩])
  (.block 2 (p88l1)))
  (.cln [6] (.seq (.reg [⟨some 35, .frz (.t 6), none⟩,
    ⟨some 2, .mov (.t 35), none⟩])
  (.ret)))))))))) }
def p60l1 : PC := .loop (.cln [3, 7, 33, 34, 35, 39, 40, 41] (.seq (.reg [⟨some 42, .bini .lss (.t 41) (.t 40), none⟩])
  (.seq (.cond (.t 42) (.skip) (.exit 2))
  (.cln [3, 7, 33, 34, 35, 39, 40, 41] (.seq (.block 3 (.seq (.reg [⟨some 43, .iaddr 3 (.t 39) (.t 41), none⟩,
    ⟨some 44, .load (some 3) (.t 43), none⟩,
    ⟨some 11, .alloc 2 (.agg [.str [], .int .i64 0, .str []]), none⟩,
    ⟨none, .store (some 3) (.t 11) (.t 44), none⟩])
  (.regd [⟨0, ⟨some 45, .mov (.t 7), none⟩, false, [], []⟩,
    ⟨1, ⟨some 46, .nilc (.t 45), none⟩, false, [0], []⟩,
    ⟨2, ⟨some 47, .faddr 15 (.t 46), none⟩, false, [0, 1], []⟩,
    ⟨3, ⟨some 48, .load none (.t 47), none⟩, false, [0, 1, 2], []⟩,
    ⟨4, ⟨some 49, .faddr 0 (.t 11), none⟩, false, [], []⟩,
    ⟨5, ⟨some 50, .load none (.t 49), none⟩, false, [4], []⟩,
    ⟨6, ⟨none, .mupd true (.t 48) (.t 50) (.c (.bool true)), none⟩, true, .range 6, []⟩] (.range 7) 51)))
  (.cln [3, 7, 33, 34, 35, 39, 40, 41] (.reg [⟨some 51, .bini .add (.t 41) (.c (.int .i64 1)), none⟩,
    ⟨some 41, .mov (.t 51), none⟩])))))))
def p60l0 : PC := .loop (.cln [3, 7, 33, 34, 35] (.seq (.reg [⟨some 36, .bini .lss (.t 35) (.t 34), none⟩])
  (.seq (.cond (.t 36) (.skip) (.exit 0))
  (.cln [3, 7, 33, 34, 35] (.seq (.block 1 (.seq (.reg [⟨some 37, .iaddr 1 (.t 33) (.t 35), none⟩,
    ⟨some 38, .load none (.t 37), none⟩,
    ⟨some 9, .mov (.t 38), none⟩])
  (.seq (.reg [⟨some 39, .mov (.t 9), none⟩,
    ⟨some 40, .lenl (.t 39), none⟩,
    ⟨some 41, .mov (.c (.int .i64 0)), none⟩])
  (.block 2 (p60l1)))))
  (.cln [3, 7, 33, 34, 35] (.reg [⟨some 52, .bini .add (.t 35) (.c (.int .i64 1)), none⟩,
    ⟨some 35, .mov (.t 52), none⟩])))))))
def p60l2 : PC := .loop (.cln [3, 7, 58, 59, 60] (.seq (.reg [⟨some 61, .bini .lss (.t 60) (.t 59), none⟩])
  (.seq (.cond (.t 61) (.skip) (.exit 4))
  (.cln [3, 7, 58, 59, 60] (.seq (.block 5 (.seq (.reg [⟨some 62, .iaddr 1 (.t 58) (.t 60), none⟩,
    ⟨some 63, .load none (.t 62), none⟩,
    ⟨some 13, .mov (.t 63), none⟩])
  (.reg [⟨some 64, .mov (.t 7), none⟩,
    ⟨some 65, .nilc (.t 64), none⟩,
    ⟨some 66, .faddr 15 (.t 65), none⟩,
    ⟨some 67, .load none (.t 66), none⟩,
    ⟨some 68, .mov (.t 13), none⟩,
    ⟨none, .mupd true (.t 67) (.t 68) (.c (.bool true)), none⟩])))
  (.cln [3, 7, 58, 59, 60] (.reg [⟨some 69, .bini .add (.t 60) (.c (.int .i64 1)), none⟩,
    ⟨some 60, .mov (.t 69), none⟩])))))))
def p60l3 : PC := .loop (.cln [3, 7, 71, 72, 73] (.seq (.reg [⟨some 74, .bini .lss (.t 73) (.t 72), none⟩])
  (.seq (.cond (.t 74) (.skip) (.exit 6))
  (.cln [3, 7, 71, 72, 73] (.seq (.block 7 (.seq (.reg [⟨some 75, .iaddr 2 (.t 71) (.t 73), none⟩,
    ⟨some 76, .load (some 2) (.t 75), none⟩,
    ⟨some 15, .alloc 3 (.agg [.str [], .vs .nil []]), none⟩,
    ⟨none, .store (some 2) (.t 15) (.t 76), none⟩])
  (.regd [⟨0, ⟨some 77, .mov (.t 7), none⟩, false, [], []⟩,
    ⟨1, ⟨some 78, .nilc (.t 77), none⟩, false, [0], []⟩,
    ⟨2, ⟨some 79, .faddr 15 (.t 78), none⟩, false, [0, 1], []⟩,
    ⟨3, ⟨some 80, .load none (.t 79), none⟩, false, [0, 1, 2], []⟩,
    ⟨4, ⟨some 81, .faddr 0 (.t 15), none⟩, false, [], []⟩,
    ⟨5, ⟨some 82, .load none (.t 81), none⟩, false, [4], []⟩,
    ⟨6, ⟨none, .mupd true (.t 80) (.t 82) (.c (.bool true)), none⟩, true, .range 6, []⟩] (.range 7) 83)))
  (.cln [3, 7, 71, 72, 73] (.reg [⟨some 83, .bini .add (.t 73) (.c (.int .i64 1)), none⟩,
    ⟨some 73, .mov (.t 83), none⟩])))))))
def p60l4 : PC := .loop (.cln [7, 85, 86, 87] (.seq (.reg [⟨some 88, .bini .lss (.t 87) (.t 86), none⟩])
  (.seq (.cond (.t 88) (.skip) (.exit 8))
  (.cln [7, 85, 86, 87] (.seq (.block 9 (.seq (.reg [⟨some 89, .iaddr 10 (.t 85) (.t 87), none⟩,
    ⟨some 90, .load (some 10) (.t 89), none⟩,
    ⟨some 17, .alloc 4 (.agg [.str [], .vs .nil [], .int .i64 0, .str [], .vs .nil [], .int .i64 0, .int .i64 0, .str [], .int .i64 0, .vs .nil []]), none⟩,
    ⟨none, .store (some 10) (.t 17) (.t 90), none⟩])
  (.regd [⟨0, ⟨some 91, .mov (.t 7), none⟩, false, [], []⟩,
    ⟨1, ⟨some 92, .nilc (.t 91), none⟩, false, [0], []⟩,
    ⟨2, ⟨some 93, .faddr 15 (.t 92), none⟩, false, [0, 1], []⟩,
    ⟨3, ⟨some 94, .load none (.t 93), none⟩, false, [0, 1, 2], []⟩,
    ⟨4, ⟨some 95, .faddr 0 (.t 17), none⟩, false, [], []⟩,
    ⟨5, ⟨some 96, .load none (.t 95), none⟩, false, [4], []⟩,
    ⟨6, ⟨none, .mupd true (.t 94) (.t 96) (.c (.bool true)), none⟩, true, .range 6, []⟩] (.range 7) 97)))
  (.cln [7, 85, 86, 87] (.reg [⟨some 97, .bini .add (.t 87) (.c (.int .i64 1)), none⟩,
    ⟨some 87, .mov (.t 97), none⟩])))))))
/-- frustum/types.newBody -/
def p60 : PFn := { nparams := 3, ntmps := 99, nobjs := 5, pure := false, keep := true, results := [⟨6, none⟩], body := (.cln (List.range 3) (.seq (.reg [⟨some 3, .boxi (.t 0), none⟩,
    ⟨some 6, .mov (.c (.nilp)), none⟩])
  (.seq (.regd [⟨0, ⟨some 18, .load (some 9) (.t 3), none⟩, false, [], []⟩,
    ⟨1, ⟨some 19, .mov (.t 1), none⟩, false, [], []⟩,
    ⟨3, ⟨some 21, .mov (.t 1), none⟩, false, [], []⟩,
    ⟨4, ⟨some 22, .lenl (.t 21), none⟩, false, [3], []⟩,
    ⟨5, ⟨some 23, .mov (.t 2), none⟩, false, [], []⟩,
    ⟨6, ⟨some 24, .mkmap 0, none⟩, false, [], []⟩,
    ⟨2, ⟨some 20, .call (.c (.fn 87 [] [])) [.t 19], none⟩, true, [1], [0, 4, 6]⟩,
    ⟨7, ⟨some 25, .build [.int .i64 0, .vs .nil [], .vs .nil [], .vs .nil [], .vs .nil [], .vs .nil [], .vs .nil [], .vs .nil [], .vs .nil [], .vs .nil [], .vs .nil [], .int .i64 0, .bool false, .int .i64 0, .int .i64 0, .nilmap] [(0, 9, .t 18), (9, 1, .t 20), (11, 1, .t 22), (12, 1, .t 23), (15, 1, .t 24)], none⟩, false, .range 7, []⟩,
    ⟨8, ⟨some 26, .box 1 (.t 25), none⟩, false, .range 8, []⟩,
    ⟨9, ⟨some 7, .mov (.t 26), none⟩, false, .range 9, []⟩] (.range 10) 27)
  (.seq (.seq (.reg [⟨some 27, .faddr 2 (.t 3), none⟩,
    ⟨some 28, .load none (.t 27), none⟩,
    ⟨some 29, .faddr 5 (.t 3), none⟩,
    ⟨some 30, .load none (.t 29), none⟩,
    ⟨some 31, .faddr 6 (.t 3), none⟩,
    ⟨some 32, .load none (.t 31), none⟩,
    ⟨some 33, .bsl [.vs .nil [], .vs .nil [], .vs .nil []] [(0, .t 28), (1, .t 30), (2, .t 32)], none⟩,
    ⟨some 34, .lenl (.t 33), none⟩,
    ⟨some 35, .mov (.c (.int .i64 0)), none⟩])
  (.block 0 (p60l0)))
  (.cln [3, 7] (.seq (.seq (.reg [⟨some 53, .faddr 3 (.t 3), none⟩,
    ⟨some 54, .load none (.t 53), none⟩,
    ⟨some 55, .faddr 4 (.t 3), none⟩,
    ⟨some 56, .load none (.t 55), none⟩,
    ⟨some 57, .bsl [.vs .nil [], .vs .nil []] [(0, .t 54), (1, .t 56)], none⟩,
    ⟨some 58, .call (.c (.fn 88 [] [])) [.t 57], none⟩,
    ⟨some 59, .lenl (.t 58), none⟩,
    ⟨some 60, .mov (.c (.int .i64 0)), none⟩])
  (.block 4 (p60l2)))
  (.cln [3, 7] (.seq (.seq (.reg [⟨some 70, .faddr 1 (.t 3), none⟩,
    ⟨some 71, .load none (.t 70), none⟩,
    ⟨some 72, .lenl (.t 71), none⟩,
    ⟨some 73, .mov (.c (.int .i64 0)), none⟩])
  (.block 6 (p60l3)))
  (.cln [3, 7] (.seq (.seq (.reg [⟨some 84, .faddr 7 (.t 3), none⟩,
    ⟨some 85, .load none (.t 84), none⟩,
    ⟨some 86, .lenl (.t 85), none⟩,
    ⟨some 87, .mov (.c (.int .i64 0)), none⟩])
  (.block 8 (p60l4)))
  (.cln [7] (.seq (.reg [⟨some 98, .mov (.t 7), none⟩,
    ⟨some 6, .mov (.t 98), none⟩])
  (.ret))))))))))))) }
/-- (*frustum/types.body).block$1 -/
def p89 : PFn := { nparams := 2, ntmps := 33, nobjs := 0, pure := false, keep := false, results := [], body := (.cln (List.range 2) (.seq (.reg [⟨some 2, .load none (.t 0), none⟩,
    ⟨some 3, .nilc (.t 2), none⟩,
    ⟨some 4, .faddr 14 (.t 3), none⟩,
    ⟨some 5, .load none (.t 4), none⟩,
    ⟨some 6, .bini .sub (.t 5) (.c (.int .i64 1)), none⟩,
    ⟨some 7, .nilc (.t 2), none⟩,
    ⟨some 8, .faddr 14 (.t 7), none⟩,
    ⟨none, .store none (.t 8) (.t 6), none⟩])
  (.seq (.seq (.reg [⟨some 9, .load none (.t 0), none⟩,
    ⟨some 10, .nilc (.t 9), none⟩,
    ⟨some 11, .faddr 14 (.t 10), none⟩,
    ⟨some 12, .load none (.t 11), none⟩,
    ⟨some 13, .bini .eql (.t 12) (.c (.int .i64 0)), none⟩])
  (.cond (.t 13) (.regd [⟨0, ⟨some 14, .load none (.t 0), none⟩, false, [], []⟩,
    ⟨1, ⟨some 15, .load none (.t 0), none⟩, false, [], []⟩,
    ⟨2, ⟨some 16, .nilc (.t 15), none⟩, false, [1], []⟩,
    ⟨3, ⟨some 17, .faddr 9 (.t 16), none⟩, false, [1, 2], []⟩,
    ⟨4, ⟨some 18, .load none (.t 17), none⟩, false, [1, 2, 3], []⟩,
    ⟨5, ⟨some 19, .load none (.t 1), none⟩, false, [], []⟩,
    ⟨6, ⟨some 20, .slc 3 (.t 18) (some (.t 19)) none none, none⟩, false, [1, 2, 3, 4, 5], []⟩,
    ⟨7, ⟨some 21, .call (.c (.fn 87 [] [])) [.t 20], none⟩, true, [1, 2, 3, 4, 5, 6], [0]⟩,
    ⟨8, ⟨some 22, .nilc (.t 14), none⟩, false, .range 8, []⟩,
    ⟨9, ⟨some 23, .faddr 10 (.t 22), none⟩, false, .range 9, []⟩,
    ⟨10, ⟨none, .store none (.t 23) (.t 21), none⟩, true, .range 10, []⟩] (.range 11) 24) (.skip)))
  (.cln [0, 1] (.regd [⟨0, ⟨some 24, .load none (.t 0), none⟩, false, [], []⟩,
    ⟨1, ⟨some 25, .load none (.t 0), none⟩, false, [], []⟩,
    ⟨2, ⟨some 26, .nilc (.t 25), none⟩, false, [1], []⟩,
    ⟨3, ⟨some 27, .faddr 9 (.t 26), none⟩, false, [1, 2], []⟩,
    ⟨4, ⟨some 28, .load none (.t 27), none⟩, false, [1, 2, 3], []⟩,
    ⟨5, ⟨some 29, .load none (.t 1), none⟩, false, [], []⟩,
    ⟨6, ⟨some 30, .slc 3 (.t 28) none (some (.t 29)) none, none⟩, false, [1, 2, 3, 4, 5], []⟩,
    ⟨7, ⟨some 31, .nilc (.t 24), none⟩, false, .range 7, []⟩,
    ⟨8, ⟨some 32, .faddr 9 (.t 31), none⟩, false, .range 8, []⟩,
    ⟨9, ⟨none, .store none (.t 32) (.t 30), none⟩, true, .range 9, []⟩] (.range 10) 33))))) }
/-- frustum/types.fieldIndex$1 -/
def p160 : PFn := { nparams := 2, ntmps := 8, nobjs := 0, pure := true, keep := false, results := [⟨3, none⟩], body := (.cln (List.range 2) (.seq (.reg [⟨some 2, .boxi (.t 0), none⟩,
    ⟨some 3, .mov (.c (.bool false)), none⟩])
  (.seq (.reg [⟨some 4, .faddr 0 (.t 2), none⟩,
    ⟨some 5, .load none (.t 4), none⟩,
    ⟨some 6, .load none (.t 1), none⟩,
    ⟨some 7, .bins .eql (.t 5) (.t 6), none⟩,
    ⟨some 3, .mov (.t 7), none⟩])
  (.ret)))) }
def p159l0 : PC := .loop (.cln [0, 1, 7, 8] (.seq (.reg [⟨some 9, .bini .lss (.t 8) (.t 7), none⟩])
  (.seq (.cond (.t 9) (.skip) (.exit 0))
  (.cln [0, 1, 7, 8] (.seq (.block 1 (.seq (.reg [⟨some 10, .mov (.t 8), none⟩,
    ⟨some 5, .mov (.t 10), none⟩])
  (.seq (.reg [⟨some 11, .mov (.t 1), none⟩,
    ⟨some 12, .mov (.t 0), none⟩,
    ⟨some 13, .mov (.t 5), none⟩,
    ⟨some 14, .iaddr 3 (.t 12) (.t 13), none⟩,
    ⟨some 15, .load (some 3) (.t 14), none⟩,
    ⟨some 16, .call (.t 11) [.t 15], none⟩])
  (.cond (.t 16) (.seq (.reg [⟨some 17, .mov (.t 5), none⟩,
    ⟨some 4, .mov (.t 17), none⟩])
  (.ret)) (.skip)))))
  (.cln [0, 1, 7, 8] (.reg [⟨some 18, .bini .add (.t 8) (.c (.int .i64 1)), none⟩,
    ⟨some 8, .mov (.t 18), none⟩])))))))
/-- slices.IndexFunc[[]frustum/api.Field,frustum/api.Field] -/
def p159 : PFn := { nparams := 2, ntmps := 19, nobjs := 0, pure := true, keep := false, results := [⟨4, none⟩], body := (.cln (List.range 2) (.seq (.reg [⟨some 4, .mov (.c (.int .i64 0)), none⟩])
  (.seq (.seq (.reg [⟨some 6, .mov (.t 0), none⟩,
    ⟨some 7, .lenl (.t 6), none⟩,
    ⟨some 8, .mov (.c (.int .i64 0)), none⟩])
  (.block 0 (p159l0)))
  (.cln [] (.seq (.reg [⟨some 4, .mov (.c (.int .i64 (-1))), none⟩])
  (.ret)))))) }
/-- frustum/types.fieldIndex -/
def p119 : PFn := { nparams := 2, ntmps := 8, nobjs := 0, pure := true, keep := false, results := [⟨4, none⟩], body := (.cln (List.range 2) (.seq (.reg [⟨some 3, .boxi (.t 1), none⟩,
    ⟨some 4, .mov (.c (.int .i64 0)), none⟩])
  (.seq (.reg [⟨some 5, .mov (.t 0), none⟩,
    ⟨some 6, .mkfn 160 [] [.t 3], none⟩,
    ⟨some 7, .call (.c (.fn 159 [] [])) [.t 5, .t 6], none⟩,
    ⟨some 4, .mov (.t 7), none⟩])
  (.ret)))) }
/-- frustum/types.arity -/
def p91 : PFn := { nparams := 1, ntmps := 15, nobjs := 0, pure := true, keep := false, results := [⟨2, none⟩], body := (.cln (List.range 1) (.seq (.reg [⟨some 2, .mov (.c (.int .i64 0)), none⟩])
  (.seq (.seq (.reg [⟨some 3, .mov (.t 0), none⟩])
  (.block 0 (.seq (.seq (.reg [⟨some 5, .bini .eql (.t 3) (.c (.int .i64 1)), none⟩,
    ⟨some 4, .mov (.t 5), none⟩])
  (.cond (.t 4) (.skip) (.seq (.reg [⟨some 6, .bini .eql (.t 3) (.c (.int .i64 2)), none⟩,
    ⟨some 4, .mov (.t 6), none⟩])
  (.cond (.t 4) (.skip) (.seq (.reg [⟨some 7, .bini .eql (.t 3) (.c (.int .i64 3)), none⟩,
    ⟨some 4, .mov (.t 7), none⟩])
  (.cond (.t 4) (.skip) (.reg [⟨some 8, .bini .eql (.t 3) (.c (.int .i64 4)), none⟩,
    ⟨some 4, .mov (.t 8), none⟩])))))))
  (.cln [3, 4] (.cond (.t 4) (.seq (.reg [⟨some 2, .mov (.c (.int .i64 0)), none⟩])
  (.ret)) (.seq (.seq (.reg [⟨some 10, .bini .eql (.t 3) (.c (.int .i64 5)), none⟩,
    ⟨some 9, .mov (.t 10), none⟩])
  (.cond (.t 9) (.skip) (.reg [⟨some 11, .bini .eql (.t 3) (.c (.int .i64 8)), none⟩,
    ⟨some 9, .mov (.t 11), none⟩])))
  (.cln [3, 9] (.cond (.t 9) (.seq (.reg [⟨some 2, .mov (.c (.int .i64 1)), none⟩])
  (.ret)) (.seq (.seq (.reg [⟨some 13, .bini .eql (.t 3) (.c (.int .i64 6)), none⟩,
    ⟨some 12, .mov (.t 13), none⟩])
  (.cond (.t 12) (.skip) (.reg [⟨some 14, .bini .eql (.t 3) (.c (.int .i64 9)), none⟩,
    ⟨some 12, .mov (.t 14), none⟩])))
  (.cln [12] (.cond (.t 12) (.seq (.reg [⟨some 2, .mov (.c (.int .i64 2)), none⟩])
  (.ret)) (.skip))))))))))))
  (.cln [] (.seq (.reg [⟨some 2, .mov (.c (.int .i64 (-1))), none⟩])
  (.ret)))))) }
/-- frustum/types.takesResource -/
def p92 : PFn := { nparams := 2, ntmps := 23, nobjs := 0, pure := true, keep := false, results := [⟨4, none⟩], body := (.cln (List.range 2) (.seq (.reg [⟨some 2, .boxi (.t 0), none⟩,
    ⟨some 3, .boxi (.t 1), none⟩,
    ⟨some 4, .mov (.c (.bool false)), none⟩])
  (.seq (.seq (.reg [⟨some 5, .faddr 2 (.t 3), none⟩,
    ⟨some 6, .load none (.t 5), none⟩])
  (.block 0 (.seq (.seq (.reg [⟨some 8, .bins .eql (.t 6) (.c (.str [115, 97, 109, 112, 108, 101])), none⟩,
    ⟨some 7, .mov (.t 8), none⟩])
  (.cond (.t 7) (.skip) (.seq (.reg [⟨some 9, .bins .eql (.t 6) (.c (.str [102, 101, 116, 99, 104])), none⟩,
    ⟨some 7, .mov (.t 9), none⟩])
  (.cond (.t 7) (.skip) (.seq (.reg [⟨some 10, .bins .eql (.t 6) (.c (.str [108, 111, 97, 100])), none⟩,
    ⟨some 7, .mov (.t 10), none⟩])
  (.cond (.t 7) (.skip) (.seq (.reg [⟨some 11, .bins .eql (.t 6) (.c (.str [100, 100, 120])), none⟩,
    ⟨some 7, .mov (.t 11), none⟩])
  (.cond (.t 7) (.skip) (.reg [⟨some 12, .bins .eql (.t 6) (.c (.str [100, 100, 121])), none⟩,
    ⟨some 7, .mov (.t 12), none⟩])))))))))
  (.cln [2, 3, 7] (.cond (.t 7) (.seq (.reg [⟨some 13, .faddr 0 (.t 3), none⟩,
    ⟨some 14, .load none (.t 13), none⟩,
    ⟨some 15, .bini .eql (.t 14) (.c (.int .i64 7)), none⟩,
    ⟨some 16, .mov (.t 15), none⟩,
    ⟨some 17, .load (some 9) (.t 2), some (16, true)⟩,
    ⟨some 18, .faddr 2 (.t 3), some (16, true)⟩,
    ⟨some 19, .load none (.t 18), some (16, true)⟩,
    ⟨some 20, .call (.c (.fn 46 [] [])) [.t 17, .t 19], some (16, true)⟩,
    ⟨some 21, .bini .lss (.t 20) (.c (.int .i64 0)), some (16, true)⟩,
    ⟨some 22, .pick (.t 16) (.t 21) (.c (.bool false)), none⟩,
    ⟨some 4, .mov (.t 22), none⟩])
  (.ret)) (.skip))))))
  (.cln [] (.seq (.reg [⟨some 4, .mov (.c (.bool false)), none⟩])
  (.ret)))))) }
/-- frustum/types.kind -/
def p123 : PFn := { nparams := 1, ntmps := 5, nobjs := 1, pure := true, keep := false, results := [⟨2, some (some 2)⟩], body := (.cln (List.range 1) (.seq (.reg [⟨some 2, .alloc 0 (.agg [.int .i64 0, .str []]), none⟩])
  (.seq (.reg [⟨some 3, .mov (.t 0), none⟩,
    ⟨some 4, .build [.int .i64 0, .str []] [(0, 1, .t 3)], none⟩,
    ⟨none, .store (some 2) (.t 2) (.t 4), none⟩])
  (.ret)))) }
/-- frustum/types.literal -/
def p127 : PFn := { nparams := 3, ntmps := 18, nobjs := 1, pure := true, keep := false, results := [⟨6, some (some 2)⟩, ⟨7, none⟩], body := (.cln (List.range 3) (.seq (.reg [⟨some 6, .alloc 0 (.agg [.int .i64 0, .str []]), none⟩,
    ⟨some 7, .mov (.c (.int .i64 0)), none⟩])
  (.seq (.seq (.reg [⟨some 8, .mov (.t 1), none⟩,
    ⟨some 9, .bini .lss (.t 8) (.c (.int .i64 0)), none⟩,
    ⟨some 10, .mov (.t 9), none⟩,
    ⟨some 11, .mov (.t 1), some (10, false)⟩,
    ⟨some 12, .mov (.t 2), some (10, false)⟩,
    ⟨some 13, .bini .gtr (.t 11) (.t 12), some (10, false)⟩,
    ⟨some 14, .pick (.t 10) (.c (.bool true)) (.t 13), none⟩])
  (.cond (.t 14) (.seq (.reg [⟨some 15, .build [.int .i64 0, .str []] [], none⟩,
    ⟨none, .store (some 2) (.t 6) (.t 15), none⟩,
    ⟨some 7, .mov (.c (.int .i64 6)), none⟩])
  (.ret)) (.skip)))
  (.cln [0, 6] (.seq (.reg [⟨some 16, .mov (.t 0), none⟩,
    ⟨some 17, .call (.c (.fn 123 [] [])) [.t 16], none⟩,
    ⟨none, .store (some 2) (.t 6) (.t 17), none⟩,
    ⟨some 7, .mov (.c (.int .i64 0)), none⟩])
  (.ret)))))) }
def p187l0 : PC := .loop (.cln [0, 1, 3] (.seq (.seq (.reg [⟨some 7, .mov (.t 3), none⟩,
    ⟨some 8, .bini .geq (.t 7) (.c (.int .i64 0)), none⟩])
  (.cond (.t 8) (.skip) (.exit 0)))
  (.cln [0, 1, 3] (.seq (.block 1 (.seq (.reg [⟨some 11, .mov (.t 0), none⟩,
    ⟨some 12, .mov (.t 3), none⟩,
    ⟨some 13, .load none (.t 1), none⟩,
    ⟨some 14, .mov (.t 3), none⟩,
    ⟨some 15, .iaddr 3 (.t 13) (.t 14), none⟩,
    ⟨some 16, .load (some 3) (.t 15), none⟩,
    ⟨some 17, .call (.t 11) [.t 12, .t 16], none⟩,
    ⟨some 18, .notb (.t 17), none⟩])
  (.cond (.t 18) (.ret) (.skip))))
  (.cln [0, 1, 3] (.reg [⟨some 9, .mov (.t 3), none⟩,
    ⟨some 10, .bini .sub (.t 9) (.c (.int .i64 1)), none⟩,
    ⟨some 3, .mov (.t 10), none⟩]))))))
/-- slices.Backward[[]frustum/api.Field,frustum/api.Field]$1 -/
def p187 : PFn := { nparams := 2, ntmps := 19, nobjs := 0, pure := false, keep := false, results := [], body := (.cln (List.range 2) (.seq (.reg [⟨some 4, .load none (.t 1), none⟩,
    ⟨some 5, .lenl (.t 4), none⟩,
    ⟨some 6, .bini .sub (.t 5) (.c (.int .i64 1)), none⟩,
    ⟨some 3, .mov (.t 6), none⟩])
  (.block 0 (p187l0)))) }
/-- slices.Backward[[]frustum/api.Field,frustum/api.Field] -/
def p163 : PFn := { nparams := 1, ntmps := 4, nobjs := 0, pure := true, keep := false, results := [⟨2, none⟩], body := (.cln (List.range 1) (.seq (.reg [⟨some 1, .boxi (.t 0), none⟩,
    ⟨some 2, .mov (.c (.nilfn)), none⟩])
  (.seq (.reg [⟨some 3, .mkfn 187 [] [.t 1], none⟩,
    ⟨some 2, .mov (.t 3), none⟩])
  (.ret)))) }
def p128l0 : PC := .loop (.cln [5, 6, 7, 29, 30, 31] (.seq (.reg [⟨some 32, .bini .lss (.t 31) (.t 30), none⟩])
  (.seq (.cond (.t 32) (.skip) (.exit 2))
  (.cln [5, 6, 7, 29, 30, 31] (.seq (.block 3 (.seq (.reg [⟨some 33, .iaddr 1 (.t 29) (.t 31), none⟩,
    ⟨some 34, .load none (.t 33), none⟩,
    ⟨some 11, .mov (.t 34), none⟩])
  (.seq (.reg [⟨some 35, .mov (.t 11), none⟩,
    ⟨some 36, .load none (.t 5), none⟩,
    ⟨some 37, .call (.c (.fn 119 [] [])) [.t 35, .t 36], none⟩,
    ⟨some 12, .mov (.t 37), none⟩])
  (.seq (.reg [⟨some 38, .mov (.t 12), none⟩,
    ⟨some 39, .bini .geq (.t 38) (.c (.int .i64 0)), none⟩])
  (.cond (.t 39) (.seq (.reg [⟨some 40, .mov (.t 11), none⟩,
    ⟨some 41, .mov (.t 12), none⟩,
    ⟨some 42, .iaddr 3 (.t 40) (.t 41), none⟩,
    ⟨some 43, .faddr 1 (.t 42), none⟩,
    ⟨some 44, .load (some 2) (.t 43), none⟩,
    ⟨none, .store (some 2) (.t 6) (.t 44), none⟩,
    ⟨none, .store none (.t 7) (.c (.bool true)), none⟩])
  (.ret)) (.skip))))))
  (.cln [5, 6, 7, 29, 30, 31] (.reg [⟨some 45, .bini .add (.t 31) (.c (.int .i64 1)), none⟩,
    ⟨some 31, .mov (.t 45), none⟩])))))))
/-- frustum/types.variable -/
def p128 : PFn := { nparams := 3, ntmps := 47, nobjs := 4, pure := true, keep := false, results := [⟨6, some (some 2)⟩, ⟨7, some none⟩], body := (.cln (List.range 3) (.seq (.reg [⟨some 3, .boxi (.t 0), none⟩,
    ⟨some 5, .boxi (.t 2), none⟩,
    ⟨some 6, .alloc 0 (.agg [.int .i64 0, .str []]), none⟩,
    ⟨some 7, .alloc 1 (.bool false), none⟩])
  (.seq (.seq (.reg [⟨some 13, .mov (.t 1), none⟩,
    ⟨some 14, .call (.c (.fn 163 [] [])) [.t 13], none⟩])
  (.block 0 (.rangef 2 (.t 14) [15, 16] (.reg [⟨some 9, .alloc 3 (.agg [.str [], .int .i64 0, .str []]), none⟩,
    ⟨none, .store (some 3) (.t 9) (.t 16), none⟩]) (.block 1 (.seq (.reg [⟨some 17, .faddr 0 (.t 9), none⟩,
    ⟨some 18, .load none (.t 17), none⟩,
    ⟨some 19, .load none (.t 5), none⟩,
    ⟨some 20, .bins .eql (.t 18) (.t 19), none⟩])
  (.cond (.t 20) (.seq (.reg [⟨some 21, .faddr 1 (.t 9), none⟩,
    ⟨some 22, .load (some 2) (.t 21), none⟩,
    ⟨none, .store (some 2) (.t 6) (.t 22), none⟩,
    ⟨none, .store none (.t 7) (.c (.bool true)), none⟩])
  (.ret)) (.skip)))))))
  (.cln [3, 5, 6, 7] (.seq (.seq (.reg [⟨some 23, .faddr 2 (.t 3), none⟩,
    ⟨some 24, .load none (.t 23), none⟩,
    ⟨some 25, .faddr 5 (.t 3), none⟩,
    ⟨some 26, .load none (.t 25), none⟩,
    ⟨some 27, .faddr 6 (.t 3), none⟩,
    ⟨some 28, .load none (.t 27), none⟩,
    ⟨some 29, .bsl [.vs .nil [], .vs .nil [], .vs .nil []] [(0, .t 24), (1, .t 26), (2, .t 28)], none⟩,
    ⟨some 30, .lenl (.t 29), none⟩,
    ⟨some 31, .mov (.c (.int .i64 0)), none⟩])
  (.block 2 (p128l0)))
  (.cln [6, 7] (.seq (.reg [⟨some 46, .build [.int .i64 0, .str []] [], none⟩,
    ⟨none, .store (some 2) (.t 6) (.t 46), none⟩,
    ⟨none, .store none (.t 7) (.c (.bool false)), none⟩])
  (.ret)))))))) }
/-- frustum/types.isNumber -/
def p165 : PFn := { nparams := 1, ntmps := 14, nobjs := 0, pure := true, keep := false, results := [⟨2, none⟩], body := (.cln (List.range 1) (.seq (.reg [⟨some 1, .boxi (.t 0), none⟩,
    ⟨some 2, .mov (.c (.bool false)), none⟩])
  (.seq (.reg [⟨some 3, .load (some 2) (.t 1), none⟩,
    ⟨some 4, .call (.c (.fn 76 [] [])) [.t 3], none⟩,
    ⟨some 5, .mov (.t 4), none⟩,
    ⟨some 6, .load (some 2) (.t 1), some (5, false)⟩,
    ⟨some 7, .call (.c (.fn 75 [] [])) [.t 6], some (5, false)⟩,
    ⟨some 8, .mov (.t 7), some (5, false)⟩,
    ⟨some 9, .faddr 0 (.t 1), some (8, true)⟩,
    ⟨some 10, .load none (.t 9), some (8, true)⟩,
    ⟨some 11, .bini .neq (.t 10) (.c (.int .i64 4)), some (8, true)⟩,
    ⟨some 12, .pick (.t 8) (.t 11) (.c (.bool false)), some (5, false)⟩,
    ⟨some 13, .pick (.t 5) (.c (.bool true)) (.t 12), none⟩,
    ⟨some 2, .mov (.t 13), none⟩])
  (.ret)))) }
/-- frustum/types.typed -/
def p164 : PFn := { nparams := 2, ntmps := 10, nobjs := 1, pure := true, keep := false, results := [⟨4, some (some 2)⟩, ⟨5, none⟩], body := (.cln (List.range 2) (.seq (.reg [⟨some 3, .boxi (.t 1), none⟩,
    ⟨some 4, .alloc 0 (.agg [.int .i64 0, .str []]), none⟩,
    ⟨some 5, .mov (.c (.int .i64 0)), none⟩])
  (.seq (.seq (.reg [⟨some 6, .mov (.t 0), none⟩,
    ⟨some 7, .notb (.t 6), none⟩])
  (.cond (.t 7) (.seq (.reg [⟨some 8, .build [.int .i64 0, .str []] [], none⟩,
    ⟨none, .store (some 2) (.t 4) (.t 8), none⟩,
    ⟨some 5, .mov (.c (.int .i64 12)), none⟩])
  (.ret)) (.skip)))
  (.cln [3, 4] (.seq (.reg [⟨some 9, .load (some 2) (.t 3), none⟩,
    ⟨none, .store (some 2) (.t 4) (.t 9), none⟩,
    ⟨some 5, .mov (.c (.int .i64 0)), none⟩])
  (.ret)))))) }
/-- frustum/types.unary -/
def p129 : PFn := { nparams := 2, ntmps := 30, nobjs := 1, pure := true, keep := false, results := [⟨4, some (some 2)⟩, ⟨5, none⟩], body := (.cln (List.range 2) (.seq (.reg [⟨some 3, .boxi (.t 1), none⟩,
    ⟨some 4, .alloc 0 (.agg [.int .i64 0, .str []]), none⟩,
    ⟨some 5, .mov (.c (.int .i64 0)), none⟩])
  (.seq (.seq (.reg [⟨some 6, .mov (.t 0), none⟩])
  (.block 0 (.seq (.reg [⟨some 8, .bini .eql (.t 6) (.c (.int .i64 17)), none⟩,
    ⟨some 7, .mov (.t 8), none⟩])
  (.cond (.t 7) (.seq (.regd [⟨0, ⟨some 9, .load (some 2) (.t 3), none⟩, false, [], []⟩,
    ⟨2, ⟨some 11, .load (some 2) (.t 3), none⟩, false, [], []⟩,
    ⟨1, ⟨some 10, .call (.c (.fn 165 [] [])) [.t 9], none⟩, true, [0], [2]⟩,
    ⟨3, ⟨some 12, .call (.c (.fn 164 [] [])) [.t 10, .t 11], none⟩, true, [0, 1, 2], []⟩,
    ⟨4, ⟨some 13, .extract (.t 12) 0, none⟩, false, [0, 1, 2, 3], []⟩,
    ⟨5, ⟨some 14, .extract (.t 12) 1, none⟩, false, [0, 1, 2, 3], []⟩,
    ⟨6, ⟨none, .store (some 2) (.t 4) (.t 13), none⟩, true, .range 6, []⟩,
    ⟨7, ⟨some 5, .mov (.t 14), none⟩, false, .range 7, []⟩] (.range 8) 15)
  (.ret)) (.seq (.reg [⟨some 16, .bini .eql (.t 6) (.c (.int .i64 18)), none⟩,
    ⟨some 15, .mov (.t 16), none⟩])
  (.cond (.t 15) (.seq (.reg [⟨some 17, .faddr 0 (.t 3), none⟩,
    ⟨some 18, .load none (.t 17), none⟩,
    ⟨some 19, .bini .eql (.t 18) (.c (.int .i64 3)), none⟩,
    ⟨some 20, .mov (.t 19), none⟩,
    ⟨some 21, .faddr 0 (.t 3), some (20, false)⟩,
    ⟨some 22, .load none (.t 21), some (20, false)⟩,
    ⟨some 23, .bini .eql (.t 22) (.c (.int .i64 4)), some (20, false)⟩,
    ⟨some 24, .pick (.t 20) (.c (.bool true)) (.t 23), none⟩,
    ⟨some 25, .load (some 2) (.t 3), none⟩,
    ⟨some 26, .call (.c (.fn 164 [] [])) [.t 24, .t 25], none⟩,
    ⟨some 27, .extract (.t 26) 0, none⟩,
    ⟨some 28, .extract (.t 26) 1, none⟩,
    ⟨none, .store (some 2) (.t 4) (.t 27), none⟩,
    ⟨some 5, .mov (.t 28), none⟩])
  (.ret)) (.skip)))))))
  (.cln [4] (.seq (.reg [⟨some 29, .build [.int .i64 0, .str []] [], none⟩,
    ⟨none, .store (some 2) (.t 4) (.t 29), none⟩,
    ⟨some 5, .mov (.c (.int .i64 10)), none⟩])
  (.ret)))))) }
/-- frustum/types.binary -/
def p130 : PFn := { nparams := 3, ntmps := 114, nobjs := 1, pure := true, keep := false, results := [⟨6, some (some 2)⟩, ⟨7, none⟩], body := (.cln (List.range 3) (.seq (.reg [⟨some 4, .boxi (.t 1), none⟩,
    ⟨some 5, .boxi (.t 2), none⟩,
    ⟨some 6, .alloc 0 (.agg [.int .i64 0, .str []]), none⟩,
    ⟨some 7, .mov (.c (.int .i64 0)), none⟩])
  (.seq (.regd [⟨0, ⟨some 10, .load (some 2) (.t 4), none⟩, false, [], []⟩,
    ⟨1, ⟨some 11, .load (some 2) (.t 5), none⟩, false, [], []⟩,
    ⟨2, ⟨some 12, .eq false (.parts [(0, 1, .ei), (1, 1, .es)]) (.t 10) (.t 11), none⟩, false, [0, 1], []⟩,
    ⟨3, ⟨some 13, .faddr 0 (.t 4), none⟩, false, [], []⟩,
    ⟨4, ⟨some 14, .load none (.t 13), none⟩, false, [3], []⟩,
    ⟨5, ⟨some 15, .bini .eql (.t 14) (.c (.int .i64 3)), none⟩, false, [3, 4], []⟩,
    ⟨6, ⟨some 8, .mov (.t 12), none⟩, false, [0, 1, 2], []⟩,
    ⟨7, ⟨some 9, .mov (.t 15), none⟩, false, .range 7, []⟩] ([0, 1, 2, 6, 3, 4, 5, 7]) 16)
  (.seq (.seq (.reg [⟨some 16, .mov (.t 0), none⟩])
  (.block 0 (.seq (.seq (.reg [⟨some 18, .bini .eql (.t 16) (.c (.int .i64 3)), none⟩,
    ⟨some 17, .mov (.t 18), none⟩])
  (.cond (.t 17) (.skip) (.reg [⟨some 19, .bini .eql (.t 16) (.c (.int .i64 4)), none⟩,
    ⟨some 17, .mov (.t 19), none⟩])))
  (.cln [4, 5, 6, 8, 9, 16, 17] (.cond (.t 17) (.seq (.seq (.regd [⟨0, ⟨some 20, .load (some 2) (.t 4), none⟩, false, [], []⟩,
    ⟨1, ⟨some 21, .call (.c (.fn 76 [] [])) [.t 20], none⟩, true, [0], []⟩,
    ⟨2, ⟨some 22, .mov (.t 21), none⟩, false, [0, 1], []⟩,
    ⟨3, ⟨some 23, .load (some 2) (.t 5), some (22, true)⟩, false, [0, 1, 2], []⟩,
    ⟨4, ⟨some 24, .call (.c (.fn 123 [] [])) [.c (.int .i64 1)], some (22, true)⟩, true, [0, 1, 2], [3]⟩,
    ⟨5, ⟨some 25, .eq false (.parts [(0, 1, .ei), (1, 1, .es)]) (.t 23) (.t 24), some (22, true)⟩, false, .range 5, []⟩,
    ⟨6, ⟨some 26, .pick (.t 22) (.t 25) (.c (.bool false)), none⟩, false, .range 6, []⟩] (.range 7) 27)
  (.cond (.t 26) (.seq (.reg [⟨some 27, .load (some 2) (.t 4), none⟩,
    ⟨none, .store (some 2) (.t 6) (.t 27), none⟩,
    ⟨some 7, .mov (.c (.int .i64 0)), none⟩])
  (.ret)) (.skip)))
  (.cln [4, 6, 8] (.seq (.regd [⟨0, ⟨some 28, .mov (.t 8), none⟩, false, [], []⟩,
    ⟨1, ⟨some 29, .mov (.t 28), none⟩, false, [0], []⟩,
    ⟨2, ⟨some 30, .load (some 2) (.t 4), some (29, true)⟩, false, [0, 1], []⟩,
    ⟨5, ⟨some 33, .load (some 2) (.t 4), none⟩, false, [], []⟩,
    ⟨3, ⟨some 31, .call (.c (.fn 165 [] [])) [.t 30], some (29, true)⟩, true, [0, 1, 2], [5]⟩,
    ⟨4, ⟨some 32, .pick (.t 29) (.t 31) (.c (.bool false)), none⟩, false, [0, 1, 2, 3], []⟩,
    ⟨6, ⟨some 34, .call (.c (.fn 164 [] [])) [.t 32, .t 33], none⟩, true, .range 6, []⟩,
    ⟨7, ⟨some 35, .extract (.t 34) 0, none⟩, false, .range 7, []⟩,
    ⟨8, ⟨some 36, .extract (.t 34) 1, none⟩, false, .range 7, []⟩,
    ⟨9, ⟨none, .store (some 2) (.t 6) (.t 35), none⟩, true, .range 9, []⟩,
    ⟨10, ⟨some 7, .mov (.t 36), none⟩, false, .range 10, []⟩] (.range 11) 37)
  (.ret)))) (.seq (.seq (.reg [⟨some 38, .bini .eql (.t 16) (.c (.int .i64 1)), none⟩,
    ⟨some 37, .mov (.t 38), none⟩])
  (.cond (.t 37) (.skip) (.reg [⟨some 39, .bini .eql (.t 16) (.c (.int .i64 2)), none⟩,
    ⟨some 37, .mov (.t 39), none⟩])))
  (.cln [4, 6, 8, 9, 16, 37] (.cond (.t 37) (.seq (.regd [⟨0, ⟨some 40, .mov (.t 8), none⟩, false, [], []⟩,
    ⟨1, ⟨some 41, .mov (.t 40), none⟩, false, [0], []⟩,
    ⟨2, ⟨some 42, .load (some 2) (.t 4), some (41, true)⟩, false, [0, 1], []⟩,
    ⟨5, ⟨some 45, .load (some 2) (.t 4), none⟩, false, [], []⟩,
    ⟨3, ⟨some 43, .call (.c (.fn 165 [] [])) [.t 42], some (41, true)⟩, true, [0, 1, 2], [5]⟩,
    ⟨4, ⟨some 44, .pick (.t 41) (.t 43) (.c (.bool false)), none⟩, false, [0, 1, 2, 3], []⟩,
    ⟨6, ⟨some 46, .call (.c (.fn 164 [] [])) [.t 44, .t 45], none⟩, true, .range 6, []⟩,
    ⟨7, ⟨some 47, .extract (.t 46) 0, none⟩, false, .range 7, []⟩,
    ⟨8, ⟨some 48, .extract (.t 46) 1, none⟩, false, .range 7, []⟩,
    ⟨9, ⟨none, .store (some 2) (.t 6) (.t 47), none⟩, true, .range 9, []⟩,
    ⟨10, ⟨some 7, .mov (.t 48), none⟩, false, .range 10, []⟩] (.range 11) 49)
  (.ret)) (.seq (.seq (.reg [⟨some 50, .bini .eql (.t 16) (.c (.int .i64 5)), none⟩,
    ⟨some 49, .mov (.t 50), none⟩])
  (.cond (.t 49) (.skip) (.seq (.reg [⟨some 51, .bini .eql (.t 16) (.c (.int .i64 9)), none⟩,
    ⟨some 49, .mov (.t 51), none⟩])
  (.cond (.t 49) (.skip) (.reg [⟨some 52, .bini .eql (.t 16) (.c (.int .i64 10)), none⟩,
    ⟨some 49, .mov (.t 52), none⟩])))))
  (.cln [4, 6, 8, 9, 16, 49] (.cond (.t 49) (.seq (.reg [⟨some 53, .mov (.t 8), none⟩,
    ⟨some 54, .mov (.t 53), none⟩,
    ⟨some 55, .mov (.t 9), some (54, true)⟩,
    ⟨some 56, .pick (.t 54) (.t 55) (.c (.bool false)), none⟩,
    ⟨some 57, .load (some 2) (.t 4), none⟩,
    ⟨some 58, .call (.c (.fn 164 [] [])) [.t 56, .t 57], none⟩,
    ⟨some 59, .extract (.t 58) 0, none⟩,
    ⟨some 60, .extract (.t 58) 1, none⟩,
    ⟨none, .store (some 2) (.t 6) (.t 59), none⟩,
    ⟨some 7, .mov (.t 60), none⟩])
  (.ret)) (.seq (.seq (.reg [⟨some 62, .bini .eql (.t 16) (.c (.int .i64 6)), none⟩,
    ⟨some 61, .mov (.t 62), none⟩])
  (.cond (.t 61) (.skip) (.seq (.reg [⟨some 63, .bini .eql (.t 16) (.c (.int .i64 7)), none⟩,
    ⟨some 61, .mov (.t 63), none⟩])
  (.cond (.t 61) (.skip) (.reg [⟨some 64, .bini .eql (.t 16) (.c (.int .i64 8)), none⟩,
    ⟨some 61, .mov (.t 64), none⟩])))))
  (.cln [4, 6, 8, 9, 16, 61] (.cond (.t 61) (.seq (.reg [⟨some 65, .mov (.t 8), none⟩,
    ⟨some 66, .mov (.t 65), none⟩,
    ⟨some 67, .mov (.t 9), some (66, true)⟩,
    ⟨some 68, .mov (.t 67), some (66, true)⟩,
    ⟨some 69, .faddr 0 (.t 4), some (68, false)⟩,
    ⟨some 70, .load none (.t 69), some (68, false)⟩,
    ⟨some 71, .bini .eql (.t 70) (.c (.int .i64 4)), some (68, false)⟩,
    ⟨some 72, .pick (.t 68) (.c (.bool true)) (.t 71), some (66, true)⟩,
    ⟨some 73, .pick (.t 66) (.t 72) (.c (.bool false)), none⟩,
    ⟨some 74, .load (some 2) (.t 4), none⟩,
    ⟨some 75, .call (.c (.fn 164 [] [])) [.t 73, .t 74], none⟩,
    ⟨some 76, .extract (.t 75) 0, none⟩,
    ⟨some 77, .extract (.t 75) 1, none⟩,
    ⟨none, .store (some 2) (.t 6) (.t 76), none⟩,
    ⟨some 7, .mov (.t 77), none⟩])
  (.ret)) (.seq (.seq (.reg [⟨some 79, .bini .eql (.t 16) (.c (.int .i64 11)), none⟩,
    ⟨some 78, .mov (.t 79), none⟩])
  (.cond (.t 78) (.skip) (.seq (.reg [⟨some 80, .bini .eql (.t 16) (.c (.int .i64 12)), none⟩,
    ⟨some 78, .mov (.t 80), none⟩])
  (.cond (.t 78) (.skip) (.seq (.reg [⟨some 81, .bini .eql (.t 16) (.c (.int .i64 13)), none⟩,
    ⟨some 78, .mov (.t 81), none⟩])
  (.cond (.t 78) (.skip) (.reg [⟨some 82, .bini .eql (.t 16) (.c (.int .i64 14)), none⟩,
    ⟨some 78, .mov (.t 82), none⟩])))))))
  (.cln [4, 6, 8, 16, 78] (.cond (.t 78) (.seq (.reg [⟨some 83, .mov (.t 8), none⟩,
    ⟨some 84, .mov (.t 83), none⟩,
    ⟨some 85, .load (some 2) (.t 4), some (84, true)⟩,
    ⟨some 86, .call (.c (.fn 165 [] [])) [.t 85], some (84, true)⟩,
    ⟨some 87, .pick (.t 84) (.t 86) (.c (.bool false)), none⟩,
    ⟨some 88, .mov (.t 87), none⟩,
    ⟨some 89, .load (some 2) (.t 4), some (88, true)⟩,
    ⟨some 90, .call (.c (.fn 76 [] [])) [.t 89], some (88, true)⟩,
    ⟨some 91, .notb (.t 90), some (88, true)⟩,
    ⟨some 92, .pick (.t 88) (.t 91) (.c (.bool false)), none⟩,
    ⟨some 93, .call (.c (.fn 123 [] [])) [.c (.int .i64 4)], none⟩,
    ⟨some 94, .call (.c (.fn 164 [] [])) [.t 92, .t 93], none⟩,
    ⟨some 95, .extract (.t 94) 0, none⟩,
    ⟨some 96, .extract (.t 94) 1, none⟩,
    ⟨none, .store (some 2) (.t 6) (.t 95), none⟩,
    ⟨some 7, .mov (.t 96), none⟩])
  (.ret)) (.seq (.seq (.reg [⟨some 98, .bini .eql (.t 16) (.c (.int .i64 15)), none⟩,
    ⟨some 97, .mov (.t 98), none⟩])
  (.cond (.t 97) (.skip) (.reg [⟨some 99, .bini .eql (.t 16) (.c (.int .i64 16)), none⟩,
    ⟨some 97, .mov (.t 99), none⟩])))
  (.cln [4, 6, 8, 97] (.cond (.t 97) (.seq (.reg [⟨some 100, .mov (.t 8), none⟩,
    ⟨some 101, .mov (.t 100), none⟩,
    ⟨some 102, .load (some 2) (.t 4), some (101, true)⟩,
    ⟨some 103, .call (.c (.fn 75 [] [])) [.t 102], some (101, true)⟩,
    ⟨some 104, .mov (.t 103), some (101, true)⟩,
    ⟨some 105, .load (some 2) (.t 4), some (104, false)⟩,
    ⟨some 106, .call (.c (.fn 76 [] [])) [.t 105], some (104, false)⟩,
    ⟨some 107, .pick (.t 104) (.c (.bool true)) (.t 106), some (101, true)⟩,
    ⟨some 108, .pick (.t 101) (.t 107) (.c (.bool false)), none⟩,
    ⟨some 109, .call (.c (.fn 123 [] [])) [.c (.int .i64 4)], none⟩,
    ⟨some 110, .call (.c (.fn 164 [] [])) [.t 108, .t 109], none⟩,
    ⟨some 111, .extract (.t 110) 0, none⟩,
    ⟨some 112, .extract (.t 110) 1, none⟩,
    ⟨none, .store (some 2) (.t 6) (.t 111), none⟩,
    ⟨some 7, .mov (.t 112), none⟩])
  (.ret)) (.skip)))))))))))))))))))))
  (.cln [6] (.seq (.reg [⟨some 113, .build [.int .i64 0, .str []] [], none⟩,
    ⟨none, .store (some 2) (.t 6) (.t 113), none⟩,
    ⟨some 7, .mov (.c (.int .i64 10)), none⟩])
  (.ret))))))) }
def p131l0 : PC := .loop (.cln [2, 6, 17, 18, 19] (.seq (.reg [⟨some 20, .bini .lss (.t 19) (.t 18), none⟩])
  (.seq (.cond (.t 20) (.skip) (.exit 0))
  (.cln [2, 6, 17, 18, 19] (.seq (.block 1 (.seq (.reg [⟨some 21, .mov (.t 19), none⟩,
    ⟨some 22, .iaddr 1 (.t 17) (.t 19), none⟩,
    ⟨some 23, .load none (.t 22), none⟩,
    ⟨some 8, .mov (.t 21), none⟩,
    ⟨some 9, .mov (.t 23), none⟩])
  (.seq (.reg [⟨some 24, .mov (.t 8), none⟩,
    ⟨some 25, .bini .geq (.t 24) (.c (.int .i64 0)), none⟩,
    ⟨some 26, .mov (.t 25), none⟩,
    ⟨some 27, .mov (.t 9), some (26, true)⟩,
    ⟨some 28, .mov (.t 2), some (26, true)⟩,
    ⟨some 29, .bins .eql (.t 27) (.t 28), some (26, true)⟩,
    ⟨some 30, .pick (.t 26) (.t 29) (.c (.bool false)), none⟩])
  (.cond (.t 30) (.seq (.reg [⟨some 31, .call (.c (.fn 123 [] [])) [.c (.int .i64 1)], none⟩,
    ⟨none, .store (some 2) (.t 6) (.t 31), none⟩,
    ⟨some 7, .mov (.c (.int .i64 0)), none⟩])
  (.ret)) (.skip)))))
  (.cln [2, 6, 17, 18, 19] (.reg [⟨some 32, .bini .add (.t 19) (.c (.int .i64 1)), none⟩,
    ⟨some 19, .mov (.t 32), none⟩])))))))
/-- frustum/types.member -/
def p131 : PFn := { nparams := 3, ntmps := 65, nobjs := 1, pure := true, keep := false, results := [⟨6, some (some 2)⟩, ⟨7, none⟩], body := (.cln (List.range 3) (.seq (.reg [⟨some 3, .boxi (.t 0), none⟩,
    ⟨some 4, .boxi (.t 1), none⟩,
    ⟨some 6, .alloc 0 (.agg [.int .i64 0, .str []]), none⟩,
    ⟨some 7, .mov (.c (.int .i64 0)), none⟩])
  (.seq (.seq (.reg [⟨some 12, .load (some 2) (.t 4), none⟩,
    ⟨some 13, .call (.c (.fn 76 [] [])) [.t 12], none⟩])
  (.cond (.t 13) (.seq (.seq (.reg [⟨some 14, .bsl [.str [], .str [], .str [], .str []] [(0, .c (.str [120])), (1, .c (.str [121])), (2, .c (.str [122])), (3, .c (.str [119]))], none⟩,
    ⟨some 15, .load (some 2) (.t 4), none⟩,
    ⟨some 16, .call (.c (.fn 45 [] [])) [.t 15], none⟩,
    ⟨some 17, .slc 1 (.t 14) none (some (.t 16)) none, none⟩,
    ⟨some 18, .lenl (.t 17), none⟩,
    ⟨some 19, .mov (.c (.int .i64 0)), none⟩])
  (.block 0 (p131l0)))
  (.cln [6] (.seq (.reg [⟨some 33, .build [.int .i64 0, .str []] [], none⟩,
    ⟨none, .store (some 2) (.t 6) (.t 33), none⟩,
    ⟨some 7, .mov (.c (.int .i64 13)), none⟩])
  (.ret)))) (.skip)))
  (.cln [2, 3, 4, 6] (.seq (.seq (.reg [⟨some 34, .faddr 0 (.t 4), none⟩,
    ⟨some 35, .load none (.t 34), none⟩,
    ⟨some 36, .bini .neq (.t 35) (.c (.int .i64 8)), none⟩])
  (.cond (.t 36) (.seq (.reg [⟨some 37, .build [.int .i64 0, .str []] [], none⟩,
    ⟨none, .store (some 2) (.t 6) (.t 37), none⟩,
    ⟨some 7, .mov (.c (.int .i64 12)), none⟩])
  (.ret)) (.skip)))
  (.cln [2, 3, 4, 6] (.seq (.seq (.reg [⟨some 38, .load (some 9) (.t 3), none⟩,
    ⟨some 39, .faddr 1 (.t 4), none⟩,
    ⟨some 40, .load none (.t 39), none⟩,
    ⟨some 41, .call (.c (.fn 46 [] [])) [.t 38, .t 40], none⟩,
    ⟨some 10, .mov (.t 41), none⟩])
  (.seq (.reg [⟨some 42, .mov (.t 10), none⟩,
    ⟨some 43, .bini .geq (.t 42) (.c (.int .i64 0)), none⟩])
  (.cond (.t 43) (.seq (.reg [⟨some 44, .faddr 1 (.t 3), none⟩,
    ⟨some 45, .load none (.t 44), none⟩,
    ⟨some 46, .mov (.t 10), none⟩,
    ⟨some 47, .iaddr 2 (.t 45) (.t 46), none⟩,
    ⟨some 48, .faddr 1 (.t 47), none⟩,
    ⟨some 49, .load none (.t 48), none⟩,
    ⟨some 50, .mov (.t 2), none⟩,
    ⟨some 51, .call (.c (.fn 119 [] [])) [.t 49, .t 50], none⟩,
    ⟨some 11, .mov (.t 51), none⟩])
  (.seq (.reg [⟨some 52, .mov (.t 11), none⟩,
    ⟨some 53, .bini .geq (.t 52) (.c (.int .i64 0)), none⟩])
  (.cond (.t 53) (.seq (.reg [⟨some 54, .faddr 1 (.t 3), none⟩,
    ⟨some 55, .load none (.t 54), none⟩,
    ⟨some 56, .mov (.t 10), none⟩,
    ⟨some 57, .iaddr 2 (.t 55) (.t 56), none⟩,
    ⟨some 58, .faddr 1 (.t 57), none⟩,
    ⟨some 59, .load none (.t 58), none⟩,
    ⟨some 60, .mov (.t 11), none⟩,
    ⟨some 61, .iaddr 3 (.t 59) (.t 60), none⟩,
    ⟨some 62, .faddr 1 (.t 61), none⟩,
    ⟨some 63, .load (some 2) (.t 62), none⟩,
    ⟨none, .store (some 2) (.t 6) (.t 63), none⟩,
    ⟨some 7, .mov (.c (.int .i64 0)), none⟩])
  (.ret)) (.skip)))) (.skip))))
  (.cln [6] (.seq (.reg [⟨some 64, .build [.int .i64 0, .str []] [], none⟩,
    ⟨none, .store (some 2) (.t 6) (.t 64), none⟩,
    ⟨some 7, .mov (.c (.int .i64 13)), none⟩])
  (.ret)))))))))) }
/-- frustum/types.wordKind -/
def p133 : PFn := { nparams := 1, ntmps := 7, nobjs := 0, pure := true, keep := false, results := [⟨2, none⟩], body := (.cln (List.range 1) (.seq (.reg [⟨some 2, .mov (.c (.int .i64 0)), none⟩])
  (.seq (.reg [⟨some 3, .load none (.g 3), none⟩,
    ⟨some 4, .mov (.t 0), none⟩,
    ⟨some 5, .call (.c (.fn 158 [] [])) [.t 3, .t 4], none⟩,
    ⟨some 6, .bini .add (.t 5) (.c (.int .i64 1)), none⟩,
    ⟨some 2, .mov (.t 6), none⟩])
  (.ret)))) }
def p195l0 : PC := .loop (.cln [0, 1, 7, 8] (.seq (.reg [⟨some 9, .bini .lss (.t 8) (.t 7), none⟩])
  (.seq (.cond (.t 9) (.skip) (.exit 0))
  (.cln [0, 1, 7, 8] (.seq (.block 1 (.seq (.reg [⟨some 10, .mov (.t 8), none⟩,
    ⟨some 5, .mov (.t 10), none⟩])
  (.seq (.reg [⟨some 11, .mov (.t 1), none⟩,
    ⟨some 12, .mov (.t 0), none⟩,
    ⟨some 13, .mov (.t 5), none⟩,
    ⟨some 14, .iaddr 1 (.t 12) (.t 13), none⟩,
    ⟨some 15, .load none (.t 14), none⟩,
    ⟨some 16, .bini .eql (.t 11) (.t 15), none⟩])
  (.cond (.t 16) (.seq (.reg [⟨some 17, .mov (.t 5), none⟩,
    ⟨some 4, .mov (.t 17), none⟩])
  (.ret)) (.skip)))))
  (.cln [0, 1, 7, 8] (.reg [⟨some 18, .bini .add (.t 8) (.c (.int .i64 1)), none⟩,
    ⟨some 8, .mov (.t 18), none⟩])))))))
/-- slices.Index[[]frustum/api.TypeKind,frustum/api.TypeKind] -/
def p195 : PFn := { nparams := 2, ntmps := 19, nobjs := 0, pure := true, keep := false, results := [⟨4, none⟩], body := (.cln (List.range 2) (.seq (.reg [⟨some 4, .mov (.c (.int .i64 0)), none⟩])
  (.seq (.seq (.reg [⟨some 6, .mov (.t 0), none⟩,
    ⟨some 7, .lenl (.t 6), none⟩,
    ⟨some 8, .mov (.c (.int .i64 0)), none⟩])
  (.block 0 (p195l0)))
  (.cln [] (.seq (.reg [⟨some 4, .mov (.c (.int .i64 (-1))), none⟩])
  (.ret)))))) }
/-- slices.Contains[[]frustum/api.TypeKind,frustum/api.TypeKind] -/
def p188 : PFn := { nparams := 2, ntmps := 9, nobjs := 0, pure := true, keep := false, results := [⟨4, none⟩], body := (.cln (List.range 2) (.seq (.reg [⟨some 4, .mov (.c (.bool false)), none⟩])
  (.seq (.reg [⟨some 5, .mov (.t 0), none⟩,
    ⟨some 6, .mov (.t 1), none⟩,
    ⟨some 7, .call (.c (.fn 195 [] [])) [.t 5, .t 6], none⟩,
    ⟨some 8, .bini .geq (.t 7) (.c (.int .i64 0)), none⟩,
    ⟨some 4, .mov (.t 8), none⟩])
  (.ret)))) }
def p166l0 : PC := .loop (.cln [1, 2, 3, 6, 8, 17, 18, 19] (.seq (.reg [⟨some 20, .bini .lss (.t 19) (.t 18), none⟩])
  (.seq (.cond (.t 20) (.skip) (.exit 0))
  (.cln [1, 2, 3, 6, 8, 17, 18, 19] (.seq (.block 1 (.seq (.reg [⟨some 21, .iaddr 2 (.t 17) (.t 19), none⟩,
    ⟨some 22, .load (some 2) (.t 21), none⟩,
    ⟨some 10, .alloc 1 (.agg [.int .i64 0, .str []]), none⟩,
    ⟨none, .store (some 2) (.t 10) (.t 22), none⟩])
  (.reg [⟨some 23, .mov (.t 8), none⟩,
    ⟨some 24, .load (some 9) (.t 3), none⟩,
    ⟨some 25, .load (some 2) (.t 10), none⟩,
    ⟨some 26, .call (.c (.fn 30 [] [])) [.t 24, .t 25], none⟩,
    ⟨some 27, .bini .add (.t 23) (.t 26), none⟩,
    ⟨some 28, .mn (.c (.int .i64 1000)) [.t 27], none⟩,
    ⟨some 8, .mov (.t 28), none⟩])))
  (.cln [1, 2, 3, 6, 8, 17, 18, 19] (.reg [⟨some 29, .bini .add (.t 19) (.c (.int .i64 1)), none⟩,
    ⟨some 19, .mov (.t 29), none⟩])))))))
def p166l1 : PC := .loop (.cln [1, 6, 36, 37, 38] (.seq (.reg [⟨some 39, .bini .lss (.t 38) (.t 37), none⟩])
  (.seq (.cond (.t 39) (.skip) (.exit 2))
  (.cln [1, 6, 36, 37, 38] (.seq (.block 3 (.seq (.reg [⟨some 40, .iaddr 2 (.t 36) (.t 38), none⟩,
    ⟨some 41, .load (some 2) (.t 40), none⟩,
    ⟨some 12, .alloc 2 (.agg [.int .i64 0, .str []]), none⟩,
    ⟨none, .store (some 2) (.t 12) (.t 41), none⟩])
  (.seq (.regd [⟨0, ⟨some 42, .load (some 2) (.t 12), none⟩, false, [], []⟩,
    ⟨1, ⟨some 43, .call (.c (.fn 123 [] [])) [.c (.int .i64 1)], none⟩, true, [], [0]⟩,
    ⟨2, ⟨some 44, .eq true (.parts [(0, 1, .ei), (1, 1, .es)]) (.t 42) (.t 43), none⟩, false, [0, 1], []⟩,
    ⟨3, ⟨some 45, .mov (.t 44), none⟩, false, [0, 1, 2], []⟩,
    ⟨4, ⟨some 46, .load (some 2) (.t 12), some (45, true)⟩, false, [0, 1, 2, 3], []⟩,
    ⟨5, ⟨some 47, .call (.c (.fn 76 [] [])) [.t 46], some (45, true)⟩, true, .range 5, []⟩,
    ⟨6, ⟨some 48, .notb (.t 47), some (45, true)⟩, false, .range 6, []⟩,
    ⟨7, ⟨some 49, .pick (.t 45) (.t 48) (.c (.bool false)), none⟩, false, .range 7, []⟩] (.range 8) 50)
  (.cond (.t 49) (.seq (.reg [⟨some 50, .build [.int .i64 0, .str []] [], none⟩,
    ⟨none, .store (some 2) (.t 6) (.t 50), none⟩,
    ⟨some 7, .mov (.c (.int .i64 12)), none⟩])
  (.ret)) (.skip)))))
  (.cln [1, 6, 36, 37, 38] (.reg [⟨some 51, .bini .add (.t 38) (.c (.int .i64 1)), none⟩,
    ⟨some 38, .mov (.t 51), none⟩])))))))
/-- frustum/types.construct -/
def p166 : PFn := { nparams := 3, ntmps := 77, nobjs := 4, pure := true, keep := false, results := [⟨6, some (some 2)⟩, ⟨7, none⟩], body := (.cln (List.range 3) (.seq (.reg [⟨some 3, .boxi (.t 0), none⟩,
    ⟨some 6, .alloc 0 (.agg [.int .i64 0, .str []]), none⟩,
    ⟨some 7, .mov (.c (.int .i64 0)), none⟩])
  (.seq (.seq (.reg [⟨some 14, .mov (.t 1), none⟩,
    ⟨some 15, .call (.c (.fn 123 [] [])) [.t 14], none⟩,
    ⟨some 16, .call (.c (.fn 76 [] [])) [.t 15], none⟩])
  (.cond (.t 16) (.seq (.reg [⟨some 8, .mov (.c (.int .i64 0)), none⟩])
  (.seq (.seq (.reg [⟨some 17, .mov (.t 2), none⟩,
    ⟨some 18, .lenl (.t 17), none⟩,
    ⟨some 19, .mov (.c (.int .i64 0)), none⟩])
  (.block 0 (p166l0)))
  (.cln [1, 2, 6, 8] (.seq (.seq (.reg [⟨some 30, .mov (.t 8), none⟩,
    ⟨some 31, .mov (.t 1), none⟩,
    ⟨some 32, .call (.c (.fn 123 [] [])) [.t 31], none⟩,
    ⟨some 33, .call (.c (.fn 45 [] [])) [.t 32], none⟩,
    ⟨some 34, .bini .neq (.t 30) (.t 33), none⟩])
  (.cond (.t 34) (.seq (.reg [⟨some 35, .build [.int .i64 0, .str []] [], none⟩,
    ⟨none, .store (some 2) (.t 6) (.t 35), none⟩,
    ⟨some 7, .mov (.c (.int .i64 11)), none⟩])
  (.ret)) (.skip)))
  (.cln [1, 2, 6] (.seq (.seq (.reg [⟨some 36, .mov (.t 2), none⟩,
    ⟨some 37, .lenl (.t 36), none⟩,
    ⟨some 38, .mov (.c (.int .i64 0)), none⟩])
  (.block 2 (p166l1)))
  (.cln [1, 6] (.seq (.reg [⟨some 52, .mov (.t 1), none⟩,
    ⟨some 53, .call (.c (.fn 123 [] [])) [.t 52], none⟩,
    ⟨none, .store (some 2) (.t 6) (.t 53), none⟩,
    ⟨some 7, .mov (.c (.int .i64 0)), none⟩])
  (.ret))))))))) (.skip)))
  (.cln [1, 2, 6] (.seq (.seq (.reg [⟨some 54, .mov (.t 2), none⟩,
    ⟨some 55, .lenl (.t 54), none⟩,
    ⟨some 56, .bini .neq (.t 55) (.c (.int .i64 1)), none⟩])
  (.cond (.t 56) (.seq (.reg [⟨some 57, .build [.int .i64 0, .str []] [], none⟩,
    ⟨none, .store (some 2) (.t 6) (.t 57), none⟩,
    ⟨some 7, .mov (.c (.int .i64 11)), none⟩])
  (.ret)) (.skip)))
  (.cln [1, 2, 6] (.seq (.reg [⟨some 58, .mkmap 3, none⟩,
    ⟨some 59, .bsl [.int .i64 0, .int .i64 0, .int .i64 0] [(0, .c (.int .i64 3)), (1, .c (.int .i64 2)), (2, .c (.int .i64 4))], none⟩,
    ⟨none, .mupd false (.t 58) (.c (.int .i64 1)) (.t 59), none⟩,
    ⟨some 60, .bsl [.int .i64 0] [(0, .c (.int .i64 1))], none⟩,
    ⟨none, .mupd false (.t 58) (.c (.int .i64 2)) (.t 60), none⟩,
    ⟨some 61, .bsl [.int .i64 0, .int .i64 0] [(0, .c (.int .i64 1)), (1, .c (.int .i64 4))], none⟩,
    ⟨none, .mupd false (.t 58) (.c (.int .i64 3)) (.t 61), none⟩,
    ⟨some 62, .bsl [.int .i64 0] [(0, .c (.int .i64 3))], none⟩,
    ⟨none, .mupd false (.t 58) (.c (.int .i64 4)) (.t 62), none⟩,
    ⟨some 63, .mov (.t 58), none⟩,
    ⟨some 13, .mov (.t 63), none⟩])
  (.seq (.regd [⟨0, ⟨some 64, .mov (.t 13), none⟩, false, [], []⟩,
    ⟨1, ⟨some 65, .mov (.t 1), none⟩, false, [], []⟩,
    ⟨2, ⟨some 66, .lookup false (.vs .nil []) false (.t 64) (.t 65), none⟩, false, [0, 1], []⟩,
    ⟨3, ⟨some 67, .mov (.t 2), none⟩, false, [], []⟩,
    ⟨4, ⟨some 68, .iaddr 2 (.t 67) (.c (.int .i64 0)), none⟩, false, [3], []⟩,
    ⟨5, ⟨some 69, .faddr 0 (.t 68), none⟩, false, [3, 4], []⟩,
    ⟨6, ⟨some 70, .load none (.t 69), none⟩, false, [3, 4, 5], []⟩,
    ⟨8, ⟨some 72, .mov (.t 1), none⟩, false, [], []⟩,
    ⟨7, ⟨some 71, .call (.c (.fn 188 [] [])) [.t 66, .t 70], none⟩, true, .range 7, []⟩,
    ⟨9, ⟨some 73, .call (.c (.fn 123 [] [])) [.t 72], none⟩, true, .range 9, []⟩,
    ⟨10, ⟨some 74, .call (.c (.fn 164 [] [])) [.t 71, .t 73], none⟩, true, .range 10, []⟩,
    ⟨11, ⟨some 75, .extract (.t 74) 0, none⟩, false, .range 11, []⟩,
    ⟨12, ⟨some 76, .extract (.t 74) 1, none⟩, false, .range 11, []⟩,
    ⟨13, ⟨none, .store (some 2) (.t 6) (.t 75), none⟩, true, .range 13, []⟩,
    ⟨14, ⟨some 7, .mov (.t 76), none⟩, false, .range 14, []⟩] (.range 15) 77)
  (.ret))))))))) }
def p167l0 : PC := .loop (.cln [1, 5, 6, 16, 17, 18] (.seq (.reg [⟨some 19, .bini .lss (.t 18) (.t 17), none⟩])
  (.seq (.cond (.t 19) (.skip) (.exit 0))
  (.cln [1, 5, 6, 16, 17, 18] (.seq (.block 1 (.seq (.reg [⟨some 20, .mov (.t 18), none⟩,
    ⟨some 21, .iaddr 2 (.t 16) (.t 18), none⟩,
    ⟨some 22, .load (some 2) (.t 21), none⟩,
    ⟨some 9, .alloc 1 (.agg [.int .i64 0, .str []]), none⟩,
    ⟨some 8, .mov (.t 20), none⟩,
    ⟨none, .store (some 2) (.t 9) (.t 22), none⟩])
  (.seq (.regd [⟨0, ⟨some 23, .load (some 2) (.t 9), none⟩, false, [], []⟩,
    ⟨1, ⟨some 24, .mov (.t 1), none⟩, false, [], []⟩,
    ⟨2, ⟨some 25, .mov (.t 8), none⟩, false, [], []⟩,
    ⟨3, ⟨some 26, .iaddr 3 (.t 24) (.t 25), none⟩, false, [1, 2], []⟩,
    ⟨4, ⟨some 27, .faddr 1 (.t 26), none⟩, false, [1, 2, 3], []⟩,
    ⟨5, ⟨some 28, .load (some 2) (.t 27), none⟩, false, [1, 2, 3, 4], []⟩,
    ⟨6, ⟨some 29, .eq true (.parts [(0, 1, .ei), (1, 1, .es)]) (.t 23) (.t 28), none⟩, false, .range 6, []⟩] (.range 7) 30)
  (.cond (.t 29) (.seq (.reg [⟨some 30, .build [.int .i64 0, .str []] [], none⟩,
    ⟨none, .store (some 2) (.t 6) (.t 30), none⟩,
    ⟨some 7, .mov (.c (.int .i64 12)), none⟩])
  (.ret)) (.skip)))))
  (.cln [1, 5, 6, 16, 17, 18] (.reg [⟨some 31, .bini .add (.t 18) (.c (.int .i64 1)), none⟩,
    ⟨some 18, .mov (.t 31), none⟩])))))))
/-- frustum/types.match -/
def p167 : PFn := { nparams := 3, ntmps := 33, nobjs := 2, pure := true, keep := false, results := [⟨6, some (some 2)⟩, ⟨7, none⟩], body := (.cln (List.range 3) (.seq (.reg [⟨some 5, .boxi (.t 2), none⟩,
    ⟨some 6, .alloc 0 (.agg [.int .i64 0, .str []]), none⟩,
    ⟨some 7, .mov (.c (.int .i64 0)), none⟩])
  (.seq (.seq (.reg [⟨some 10, .mov (.t 0), none⟩,
    ⟨some 11, .lenl (.t 10), none⟩,
    ⟨some 12, .mov (.t 1), none⟩,
    ⟨some 13, .lenl (.t 12), none⟩,
    ⟨some 14, .bini .neq (.t 11) (.t 13), none⟩])
  (.cond (.t 14) (.seq (.reg [⟨some 15, .build [.int .i64 0, .str []] [], none⟩,
    ⟨none, .store (some 2) (.t 6) (.t 15), none⟩,
    ⟨some 7, .mov (.c (.int .i64 11)), none⟩])
  (.ret)) (.skip)))
  (.cln [0, 1, 5, 6] (.seq (.seq (.reg [⟨some 16, .mov (.t 0), none⟩,
    ⟨some 17, .lenl (.t 16), none⟩,
    ⟨some 18, .mov (.c (.int .i64 0)), none⟩])
  (.block 0 (p167l0)))
  (.cln [5, 6] (.seq (.reg [⟨some 32, .load (some 2) (.t 5), none⟩,
    ⟨none, .store (some 2) (.t 6) (.t 32), none⟩,
    ⟨some 7, .mov (.c (.int .i64 0)), none⟩])
  (.ret)))))))) }
def p190l0 : PC := .loop (.cln [0, 1, 12, 13] (.seq (.reg [⟨some 14, .bini .lss (.t 13) (.t 12), none⟩])
  (.seq (.cond (.t 14) (.skip) (.exit 0))
  (.cln [0, 1, 12, 13] (.seq (.block 1 (.seq (.reg [⟨some 15, .mov (.t 13), none⟩,
    ⟨some 5, .mov (.t 15), none⟩])
  (.seq (.regd [⟨0, ⟨some 16, .mov (.t 0), none⟩, false, [], []⟩,
    ⟨1, ⟨some 17, .mov (.t 5), none⟩, false, [], []⟩,
    ⟨2, ⟨some 18, .iaddr 2 (.t 16) (.t 17), none⟩, false, [0, 1], []⟩,
    ⟨3, ⟨some 19, .load (some 2) (.t 18), none⟩, false, [0, 1, 2], []⟩,
    ⟨4, ⟨some 20, .mov (.t 1), none⟩, false, [], []⟩,
    ⟨5, ⟨some 21, .mov (.t 5), none⟩, false, [], []⟩,
    ⟨6, ⟨some 22, .iaddr 2 (.t 20) (.t 21), none⟩, false, [4, 5], []⟩,
    ⟨7, ⟨some 23, .load (some 2) (.t 22), none⟩, false, [4, 5, 6], []⟩,
    ⟨8, ⟨some 24, .eq true (.parts [(0, 1, .ei), (1, 1, .es)]) (.t 19) (.t 23), none⟩, false, .range 8, []⟩] (.range 9) 25)
  (.cond (.t 24) (.seq (.reg [⟨some 4, .mov (.c (.bool false)), none⟩])
  (.ret)) (.skip)))))
  (.cln [0, 1, 12, 13] (.reg [⟨some 25, .bini .add (.t 13) (.c (.int .i64 1)), none⟩,
    ⟨some 13, .mov (.t 25), none⟩])))))))
/-- slices.Equal[[]frustum/api.Type,frustum/api.Type] -/
def p190 : PFn := { nparams := 2, ntmps := 26, nobjs := 0, pure := true, keep := false, results := [⟨4, none⟩], body := (.cln (List.range 2) (.seq (.reg [⟨some 4, .mov (.c (.bool false)), none⟩])
  (.seq (.seq (.reg [⟨some 6, .mov (.t 0), none⟩,
    ⟨some 7, .lenl (.t 6), none⟩,
    ⟨some 8, .mov (.t 1), none⟩,
    ⟨some 9, .lenl (.t 8), none⟩,
    ⟨some 10, .bini .neq (.t 7) (.t 9), none⟩])
  (.cond (.t 10) (.seq (.reg [⟨some 4, .mov (.c (.bool false)), none⟩])
  (.ret)) (.skip)))
  (.cln [0, 1] (.seq (.seq (.reg [⟨some 11, .mov (.t 0), none⟩,
    ⟨some 12, .lenl (.t 11), none⟩,
    ⟨some 13, .mov (.c (.int .i64 0)), none⟩])
  (.block 0 (p190l0)))
  (.cln [] (.seq (.reg [⟨some 4, .mov (.c (.bool true)), none⟩])
  (.ret)))))))) }
/-- frustum/types.resource$1 -/
def p189 : PFn := { nparams := 3, ntmps := 20, nobjs := 1, pure := true, keep := false, results := [⟨5, some (some 2)⟩, ⟨6, none⟩], body := (.cln (List.range 3) (.seq (.reg [⟨some 3, .boxi (.t 0), none⟩,
    ⟨some 5, .alloc 0 (.agg [.int .i64 0, .str []]), none⟩,
    ⟨some 6, .mov (.c (.int .i64 0)), none⟩])
  (.seq (.seq (.reg [⟨some 7, .load none (.t 2), none⟩,
    ⟨some 8, .lenl (.t 7), none⟩,
    ⟨some 9, .mov (.t 1), none⟩,
    ⟨some 10, .lenl (.t 9), none⟩,
    ⟨some 11, .bini .neq (.t 8) (.t 10), none⟩])
  (.cond (.t 11) (.seq (.reg [⟨some 12, .build [.int .i64 0, .str []] [], none⟩,
    ⟨none, .store (some 2) (.t 5) (.t 12), none⟩,
    ⟨some 6, .mov (.c (.int .i64 11)), none⟩])
  (.ret)) (.skip)))
  (.cln [1, 2, 3, 5] (.seq (.regd [⟨0, ⟨some 13, .load none (.t 2), none⟩, false, [], []⟩,
    ⟨1, ⟨some 14, .mov (.t 1), none⟩, false, [], []⟩,
    ⟨3, ⟨some 16, .load (some 2) (.t 3), none⟩, false, [], []⟩,
    ⟨2, ⟨some 15, .call (.c (.fn 190 [] [])) [.t 13, .t 14], none⟩, true, [0, 1], [3]⟩,
    ⟨4, ⟨some 17, .call (.c (.fn 164 [] [])) [.t 15, .t 16], none⟩, true, [0, 1, 2, 3], []⟩,
    ⟨5, ⟨some 18, .extract (.t 17) 0, none⟩, false, .range 5, []⟩,
    ⟨6, ⟨some 19, .extract (.t 17) 1, none⟩, false, .range 5, []⟩,
    ⟨7, ⟨none, .store (some 2) (.t 5) (.t 18), none⟩, true, .range 7, []⟩,
    ⟨8, ⟨some 6, .mov (.t 19), none⟩, false, .range 8, []⟩] (.range 9) 20)
  (.ret)))))) }
/-- frustum/types.resource -/
def p168 : PFn := { nparams := 4, ntmps := 128, nobjs := 5, pure := true, keep := false, results := [⟨8, some (some 2)⟩, ⟨9, none⟩], body := (.cln (List.range 4) (.seq (.reg [⟨some 4, .boxi (.t 0), none⟩,
    ⟨some 6, .boxi (.t 2), none⟩,
    ⟨some 8, .alloc 0 (.agg [.int .i64 0, .str []]), none⟩,
    ⟨some 9, .mov (.c (.int .i64 0)), none⟩])
  (.seq (.seq (.reg [⟨some 16, .mov (.t 3), none⟩,
    ⟨some 17, .lenl (.t 16), none⟩,
    ⟨some 18, .bini .eql (.t 17) (.c (.int .i64 0)), none⟩])
  (.cond (.t 18) (.seq (.reg [⟨some 19, .build [.int .i64 0, .str []] [], none⟩,
    ⟨none, .store (some 2) (.t 8) (.t 19), none⟩,
    ⟨some 9, .mov (.c (.int .i64 11)), none⟩])
  (.ret)) (.skip)))
  (.cln [1, 3, 4, 6, 8] (.seq (.reg [⟨some 20, .faddr 4 (.t 6), none⟩,
    ⟨some 21, .load none (.t 20), none⟩,
    ⟨some 22, .iaddr 5 (.t 21) (.c (.int .i64 0)), none⟩,
    ⟨some 23, .load (some 5) (.t 22), none⟩,
    ⟨some 10, .alloc 1 (.agg [.int .i64 0, .int .i64 0, .str [], .int .i64 0, .vs .nil []]), none⟩,
    ⟨none, .store (some 5) (.t 10) (.t 23), none⟩])
  (.seq (.seq (.reg [⟨some 24, .faddr 0 (.t 10), none⟩,
    ⟨some 25, .load none (.t 24), none⟩,
    ⟨some 26, .bini .neq (.t 25) (.c (.int .i64 4)), none⟩,
    ⟨some 27, .mov (.t 26), none⟩,
    ⟨some 28, .faddr 4 (.t 10), some (27, false)⟩,
    ⟨some 29, .load none (.t 28), some (27, false)⟩,
    ⟨some 30, .lenl (.t 29), some (27, false)⟩,
    ⟨some 31, .bini .gtr (.t 30) (.c (.int .i64 0)), some (27, false)⟩,
    ⟨some 32, .pick (.t 27) (.c (.bool true)) (.t 31), none⟩])
  (.cond (.t 32) (.seq (.reg [⟨some 33, .build [.int .i64 0, .str []] [], none⟩,
    ⟨none, .store (some 2) (.t 8) (.t 33), none⟩,
    ⟨some 9, .mov (.c (.int .i64 13)), none⟩])
  (.ret)) (.skip)))
  (.cln [1, 3, 4, 6, 8, 10] (.seq (.regd [⟨0, ⟨some 34, .mov (.t 3), none⟩, false, [], []⟩,
    ⟨1, ⟨some 35, .slc 2 (.t 34) (some (.c (.int .i64 1))) none none, none⟩, false, [0], []⟩,
    ⟨3, ⟨some 11, .alloc 2 (.vs .nil []), none⟩, false, [], []⟩,
    ⟨4, ⟨some 12, .alloc 3 (.agg [.int .i64 0, .str []]), none⟩, false, [], []⟩,
    ⟨2, ⟨some 36, .call (.c (.fn 123 [] [])) [.c (.int .i64 3)], none⟩, true, [], [1, 3, 4]⟩,
    ⟨5, ⟨none, .store none (.t 11) (.t 35), none⟩, true, .range 5, []⟩,
    ⟨6, ⟨none, .store (some 2) (.t 12) (.t 36), none⟩, true, .range 6, []⟩] (.range 7) 37)
  (.seq (.reg [⟨some 37, .mkfn 189 [] [.t 11], none⟩,
    ⟨some 13, .mov (.t 37), none⟩])
  (.seq (.seq (.reg [⟨some 38, .faddr 2 (.t 6), none⟩,
    ⟨some 39, .load none (.t 38), none⟩])
  (.block 0 (.seq (.seq (.reg [⟨some 41, .bins .eql (.t 39) (.c (.str [115, 97, 109, 112, 108, 101])), none⟩,
    ⟨some 40, .mov (.t 41), none⟩])
  (.cond (.t 40) (.skip) (.reg [⟨some 42, .bins .eql (.t 39) (.c (.str [102, 101, 116, 99, 104])), none⟩,
    ⟨some 40, .mov (.t 42), none⟩])))
  (.cln [1, 4, 6, 8, 10, 11, 12, 13, 39, 40] (.cond (.t 40) (.seq (.seq (.reg [⟨some 43, .faddr 3 (.t 4), none⟩,
    ⟨some 44, .load none (.t 43), none⟩,
    ⟨some 45, .faddr 2 (.t 10), none⟩,
    ⟨some 46, .load none (.t 45), none⟩,
    ⟨some 47, .call (.c (.fn 117 [] [])) [.t 44, .t 46], none⟩,
    ⟨some 48, .notb (.t 47), none⟩])
  (.cond (.t 48) (.seq (.reg [⟨some 49, .build [.int .i64 0, .str []] [], none⟩,
    ⟨none, .store (some 2) (.t 8) (.t 49), none⟩,
    ⟨some 9, .mov (.c (.int .i64 13)), none⟩])
  (.ret)) (.skip)))
  (.cln [6, 8, 12, 13] (.seq (.seq (.reg [⟨some 50, .faddr 2 (.t 6), none⟩,
    ⟨some 51, .load none (.t 50), none⟩,
    ⟨some 52, .bins .eql (.t 51) (.c (.str [115, 97, 109, 112, 108, 101])), none⟩])
  (.cond (.t 52) (.seq (.reg [⟨some 53, .mov (.t 13), none⟩,
    ⟨some 54, .call (.c (.fn 123 [] [])) [.c (.int .i64 7)], none⟩,
    ⟨some 55, .call (.c (.fn 123 [] [])) [.c (.int .i64 5)], none⟩,
    ⟨some 56, .call (.c (.fn 123 [] [])) [.c (.int .i64 1)], none⟩,
    ⟨some 57, .bsl [.agg [.int .i64 0, .str []], .agg [.int .i64 0, .str []]] [(0, .t 55), (1, .t 56)], none⟩,
    ⟨some 58, .call (.t 53) [.t 54, .t 57], none⟩,
    ⟨some 59, .extract (.t 58) 0, none⟩,
    ⟨some 60, .extract (.t 58) 1, none⟩,
    ⟨none, .store (some 2) (.t 8) (.t 59), none⟩,
    ⟨some 9, .mov (.t 60), none⟩])
  (.ret)) (.skip)))
  (.cln [8, 12, 13] (.seq (.regd [⟨0, ⟨some 61, .mov (.t 13), none⟩, false, [], []⟩,
    ⟨2, ⟨some 63, .load (some 2) (.t 12), none⟩, false, [], []⟩,
    ⟨3, ⟨some 64, .load (some 2) (.t 12), none⟩, false, [], []⟩,
    ⟨4, ⟨some 65, .load (some 2) (.t 12), none⟩, false, [], []⟩,
    ⟨5, ⟨some 66, .bsl [.agg [.int .i64 0, .str []], .agg [.int .i64 0, .str []], .agg [.int .i64 0, .str []]] [(0, .t 63), (1, .t 64), (2, .t 65)], none⟩, false, [2, 3, 4], []⟩,
    ⟨1, ⟨some 62, .call (.c (.fn 123 [] [])) [.c (.int .i64 7)], none⟩, true, [], [2, 3, 4]⟩,
    ⟨6, ⟨some 67, .call (.t 61) [.t 62, .t 66], none⟩, true, .range 6, []⟩,
    ⟨7, ⟨some 68, .extract (.t 67) 0, none⟩, false, .range 7, []⟩,
    ⟨8, ⟨some 69, .extract (.t 67) 1, none⟩, false, .range 7, []⟩,
    ⟨9, ⟨none, .store (some 2) (.t 8) (.t 68), none⟩, true, .range 9, []⟩,
    ⟨10, ⟨some 9, .mov (.t 69), none⟩, false, .range 10, []⟩] (.range 11) 70)
  (.ret)))))) (.seq (.reg [⟨some 71, .bins .eql (.t 39) (.c (.str [108, 111, 97, 100])), none⟩,
    ⟨some 70, .mov (.t 71), none⟩])
  (.cond (.t 70) (.seq (.seq (.reg [⟨some 72, .faddr 4 (.t 4), none⟩,
    ⟨some 73, .load none (.t 72), none⟩,
    ⟨some 74, .faddr 2 (.t 10), none⟩,
    ⟨some 75, .load none (.t 74), none⟩,
    ⟨some 76, .call (.c (.fn 117 [] [])) [.t 73, .t 75], none⟩,
    ⟨some 77, .notb (.t 76), none⟩])
  (.cond (.t 77) (.seq (.reg [⟨some 78, .build [.int .i64 0, .str []] [], none⟩,
    ⟨none, .store (some 2) (.t 8) (.t 78), none⟩,
    ⟨some 9, .mov (.c (.int .i64 13)), none⟩])
  (.ret)) (.skip)))
  (.cln [8, 12, 13] (.seq (.reg [⟨some 79, .mov (.t 13), none⟩,
    ⟨some 80, .load (some 2) (.t 12), none⟩,
    ⟨some 81, .load (some 2) (.t 12), none⟩,
    ⟨some 82, .bsl [.agg [.int .i64 0, .str []]] [(0, .t 81)], none⟩,
    ⟨some 83, .call (.t 79) [.t 80, .t 82], none⟩,
    ⟨some 84, .extract (.t 83) 0, none⟩,
    ⟨some 85, .extract (.t 83) 1, none⟩,
    ⟨none, .store (some 2) (.t 8) (.t 84), none⟩,
    ⟨some 9, .mov (.t 85), none⟩])
  (.ret)))) (.skip))))))))
  (.cln [1, 4, 8, 10, 11] (.seq (.reg [⟨some 86, .faddr 5 (.t 4), none⟩,
    ⟨some 87, .load none (.t 86), none⟩,
    ⟨some 88, .faddr 2 (.t 10), none⟩,
    ⟨some 89, .load none (.t 88), none⟩,
    ⟨some 90, .call (.c (.fn 119 [] [])) [.t 87, .t 89], none⟩,
    ⟨some 14, .mov (.t 90), none⟩])
  (.seq (.seq (.reg [⟨some 91, .mov (.t 14), none⟩,
    ⟨some 92, .bini .lss (.t 91) (.c (.int .i64 0)), none⟩,
    ⟨some 93, .mov (.t 92), none⟩,
    ⟨some 94, .mov (.t 1), some (93, false)⟩,
    ⟨some 95, .faddr 2 (.t 10), some (93, false)⟩,
    ⟨some 96, .load none (.t 95), some (93, false)⟩,
    ⟨some 97, .call (.c (.fn 119 [] [])) [.t 94, .t 96], some (93, false)⟩,
    ⟨some 98, .bini .geq (.t 97) (.c (.int .i64 0)), some (93, false)⟩,
    ⟨some 99, .pick (.t 93) (.c (.bool true)) (.t 98), none⟩])
  (.cond (.t 99) (.seq (.reg [⟨some 100, .build [.int .i64 0, .str []] [], none⟩,
    ⟨none, .store (some 2) (.t 8) (.t 100), none⟩,
    ⟨some 9, .mov (.c (.int .i64 13)), none⟩])
  (.ret)) (.skip)))
  (.cln [4, 8, 11, 14] (.seq (.reg [⟨some 101, .faddr 5 (.t 4), none⟩,
    ⟨some 102, .load none (.t 101), none⟩,
    ⟨some 103, .mov (.t 14), none⟩,
    ⟨some 104, .iaddr 3 (.t 102) (.t 103), none⟩,
    ⟨some 105, .faddr 1 (.t 104), none⟩,
    ⟨some 106, .load (some 2) (.t 105), none⟩,
    ⟨some 15, .alloc 4 (.agg [.int .i64 0, .str []]), none⟩,
    ⟨none, .store (some 2) (.t 15) (.t 106), none⟩])
  (.seq (.block 1 (.seq (.reg [⟨some 108, .load none (.t 11), none⟩,
    ⟨some 109, .lenl (.t 108), none⟩,
    ⟨some 110, .bini .gtr (.t 109) (.c (.int .i64 0)), none⟩,
    ⟨some 107, .mov (.t 110), none⟩])
  (.cond (.t 107) (.seq (.reg [⟨some 111, .build [.int .i64 0, .str []] [], none⟩,
    ⟨none, .store (some 2) (.t 8) (.t 111), none⟩,
    ⟨some 9, .mov (.c (.int .i64 11)), none⟩])
  (.ret)) (.seq (.regd [⟨0, ⟨some 113, .load (some 2) (.t 15), none⟩, false, [], []⟩,
    ⟨1, ⟨some 114, .call (.c (.fn 123 [] [])) [.c (.int .i64 1)], none⟩, true, [], [0]⟩,
    ⟨2, ⟨some 115, .eq true (.parts [(0, 1, .ei), (1, 1, .es)]) (.t 113) (.t 114), none⟩, false, [0, 1], []⟩,
    ⟨3, ⟨some 116, .mov (.t 115), none⟩, false, [0, 1, 2], []⟩,
    ⟨4, ⟨some 117, .load (some 2) (.t 15), some (116, true)⟩, false, [0, 1, 2, 3], []⟩,
    ⟨5, ⟨some 118, .call (.c (.fn 76 [] [])) [.t 117], some (116, true)⟩, true, .range 5, []⟩,
    ⟨6, ⟨some 119, .notb (.t 118), some (116, true)⟩, false, .range 6, []⟩,
    ⟨7, ⟨some 120, .pick (.t 116) (.t 119) (.c (.bool false)), none⟩, false, .range 7, []⟩,
    ⟨8, ⟨some 112, .mov (.t 120), none⟩, false, .range 8, []⟩] (.range 9) 121)
  (.cond (.t 112) (.seq (.reg [⟨some 121, .build [.int .i64 0, .str []] [], none⟩,
    ⟨none, .store (some 2) (.t 8) (.t 121), none⟩,
    ⟨some 9, .mov (.c (.int .i64 12)), none⟩])
  (.ret)) (.seq (.reg [⟨some 123, .faddr 0 (.t 4), none⟩,
    ⟨some 124, .load none (.t 123), none⟩,
    ⟨some 125, .bini .neq (.t 124) (.c (.int .i64 3)), none⟩,
    ⟨some 122, .mov (.t 125), none⟩])
  (.cond (.t 122) (.seq (.reg [⟨some 126, .build [.int .i64 0, .str []] [], none⟩,
    ⟨none, .store (some 2) (.t 8) (.t 126), none⟩,
    ⟨some 9, .mov (.c (.int .i64 10)), none⟩])
  (.ret)) (.skip))))))))
  (.cln [8, 15] (.seq (.reg [⟨some 127, .load (some 2) (.t 15), none⟩,
    ⟨none, .store (some 2) (.t 8) (.t 127), none⟩,
    ⟨some 9, .mov (.c (.int .i64 0)), none⟩])
  (.ret))))))))))))))))))) }
/-- frustum/types.builtin$1$1 -/
def p193 : PFn := { nparams := 2, ntmps := 7, nobjs := 0, pure := true, keep := false, results := [⟨3, none⟩], body := (.cln (List.range 2) (.seq (.reg [⟨some 2, .boxi (.t 0), none⟩,
    ⟨some 3, .mov (.c (.bool false)), none⟩])
  (.seq (.reg [⟨some 4, .load (some 2) (.t 2), none⟩,
    ⟨some 5, .load (some 2) (.t 1), none⟩,
    ⟨some 6, .eq true (.parts [(0, 1, .ei), (1, 1, .es)]) (.t 4) (.t 5), none⟩,
    ⟨some 3, .mov (.t 6), none⟩])
  (.ret)))) }
def p196l0 : PC := .loop (.cln [0, 1, 7, 8] (.seq (.reg [⟨some 9, .bini .lss (.t 8) (.t 7), none⟩])
  (.seq (.cond (.t 9) (.skip) (.exit 0))
  (.cln [0, 1, 7, 8] (.seq (.block 1 (.seq (.reg [⟨some 10, .mov (.t 8), none⟩,
    ⟨some 5, .mov (.t 10), none⟩])
  (.seq (.reg [⟨some 11, .mov (.t 1), none⟩,
    ⟨some 12, .mov (.t 0), none⟩,
    ⟨some 13, .mov (.t 5), none⟩,
    ⟨some 14, .iaddr 2 (.t 12) (.t 13), none⟩,
    ⟨some 15, .load (some 2) (.t 14), none⟩,
    ⟨some 16, .call (.t 11) [.t 15], none⟩])
  (.cond (.t 16) (.seq (.reg [⟨some 17, .mov (.t 5), none⟩,
    ⟨some 4, .mov (.t 17), none⟩])
  (.ret)) (.skip)))))
  (.cln [0, 1, 7, 8] (.reg [⟨some 18, .bini .add (.t 8) (.c (.int .i64 1)), none⟩,
    ⟨some 8, .mov (.t 18), none⟩])))))))
/-- slices.IndexFunc[[]frustum/api.Type,frustum/api.Type] -/
def p196 : PFn := { nparams := 2, ntmps := 19, nobjs := 0, pure := false, keep := false, results := [⟨4, none⟩], body := (.cln (List.range 2) (.seq (.reg [⟨some 4, .mov (.c (.int .i64 0)), none⟩])
  (.seq (.seq (.reg [⟨some 6, .mov (.t 0), none⟩,
    ⟨some 7, .lenl (.t 6), none⟩,
    ⟨some 8, .mov (.c (.int .i64 0)), none⟩])
  (.block 0 (p196l0)))
  (.cln [] (.seq (.reg [⟨some 4, .mov (.c (.int .i64 (-1))), none⟩])
  (.ret)))))) }
/-- slices.ContainsFunc[[]frustum/api.Type,frustum/api.Type] -/
def p192 : PFn := { nparams := 2, ntmps := 9, nobjs := 0, pure := true, keep := false, results := [⟨4, none⟩], body := (.cln (List.range 2) (.seq (.reg [⟨some 4, .mov (.c (.bool false)), none⟩])
  (.seq (.reg [⟨some 5, .mov (.t 0), none⟩,
    ⟨some 6, .mov (.t 1), none⟩,
    ⟨some 7, .call (.c (.fn 196 [] [])) [.t 5, .t 6], none⟩,
    ⟨some 8, .bini .geq (.t 7) (.c (.int .i64 0)), none⟩,
    ⟨some 4, .mov (.t 8), none⟩])
  (.ret)))) }
/-- frustum/types.builtin$1 -/
def p191 : PFn := { nparams := 2, ntmps := 8, nobjs := 0, pure := true, keep := false, results := [⟨3, none⟩], body := (.cln (List.range 2) (.seq (.reg [⟨some 3, .mov (.c (.bool false)), none⟩])
  (.seq (.reg [⟨some 4, .mov (.t 0), none⟩,
    ⟨some 5, .mkfn 193 [] [.t 1], none⟩,
    ⟨some 6, .call (.c (.fn 192 [] [])) [.t 4, .t 5], none⟩,
    ⟨some 7, .notb (.t 6), none⟩,
    ⟨some 3, .mov (.t 7), none⟩])
  (.ret)))) }
/-- frustum/types.builtin -/
def p169 : PFn := { nparams := 2, ntmps := 87, nobjs := 4, pure := true, keep := false, results := [⟨4, some (some 2)⟩, ⟨5, none⟩], body := (.cln (List.range 2) (.seq (.reg [⟨some 4, .alloc 0 (.agg [.int .i64 0, .str []]), none⟩,
    ⟨some 5, .mov (.c (.int .i64 0)), none⟩])
  (.seq (.reg [⟨some 10, .mkmap 1, none⟩,
    ⟨none, .mupd true (.t 10) (.c (.str [109, 105, 110])) (.c (.int .i64 2)), none⟩,
    ⟨none, .mupd true (.t 10) (.c (.str [109, 97, 120])) (.c (.int .i64 2)), none⟩,
    ⟨none, .mupd true (.t 10) (.c (.str [99, 108, 97, 109, 112])) (.c (.int .i64 3)), none⟩,
    ⟨none, .mupd true (.t 10) (.c (.str [97, 98, 115])) (.c (.int .i64 1)), none⟩,
    ⟨none, .mupd true (.t 10) (.c (.str [102, 108, 111, 111, 114])) (.c (.int .i64 1)), none⟩,
    ⟨none, .mupd true (.t 10) (.c (.str [102, 114, 97, 99, 116])) (.c (.int .i64 1)), none⟩,
    ⟨none, .mupd true (.t 10) (.c (.str [115, 113, 114, 116])) (.c (.int .i64 1)), none⟩,
    ⟨none, .mupd true (.t 10) (.c (.str [100, 111, 116])) (.c (.int .i64 2)), none⟩,
    ⟨none, .mupd true (.t 10) (.c (.str [109, 105, 120])) (.c (.int .i64 3)), none⟩,
    ⟨some 11, .mov (.t 10), none⟩,
    ⟨some 6, .mov (.t 11), none⟩])
  (.seq (.seq (.reg [⟨some 12, .mov (.t 1), none⟩,
    ⟨some 13, .lenl (.t 12), none⟩,
    ⟨some 14, .mov (.t 6), none⟩,
    ⟨some 15, .mov (.t 0), none⟩,
    ⟨some 16, .lookup true (.int .i64 0) false (.t 14) (.t 15), none⟩,
    ⟨some 17, .bini .neq (.t 13) (.t 16), none⟩])
  (.cond (.t 17) (.seq (.reg [⟨some 18, .build [.int .i64 0, .str []] [], none⟩,
    ⟨none, .store (some 2) (.t 4) (.t 18), none⟩,
    ⟨some 5, .mov (.c (.int .i64 11)), none⟩])
  (.ret)) (.skip)))
  (.cln [0, 1, 4] (.seq (.regd [⟨0, ⟨some 19, .mov (.t 1), none⟩, false, [], []⟩,
    ⟨1, ⟨some 20, .iaddr 2 (.t 19) (.c (.int .i64 0)), none⟩, false, [0], []⟩,
    ⟨2, ⟨some 21, .load (some 2) (.t 20), none⟩, false, [0, 1], []⟩,
    ⟨4, ⟨some 7, .alloc 2 (.agg [.int .i64 0, .str []]), none⟩, false, [], []⟩,
    ⟨5, ⟨some 8, .alloc 3 (.agg [.int .i64 0, .str []]), none⟩, false, [], []⟩,
    ⟨3, ⟨some 22, .call (.c (.fn 123 [] [])) [.c (.int .i64 1)], none⟩, true, [], [1, 2, 4, 5]⟩,
    ⟨6, ⟨none, .store (some 2) (.t 7) (.t 21), none⟩, true, .range 6, []⟩,
    ⟨7, ⟨none, .store (some 2) (.t 8) (.t 22), none⟩, true, .range 7, []⟩] (.range 8) 23)
  (.seq (.reg [⟨some 23, .mkfn 191 [] [.t 7], none⟩,
    ⟨some 9, .mov (.t 23), none⟩])
  (.seq (.seq (.reg [⟨some 24, .mov (.t 0), none⟩])
  (.block 0 (.seq (.seq (.reg [⟨some 26, .bins .eql (.t 24) (.c (.str [109, 105, 110])), none⟩,
    ⟨some 25, .mov (.t 26), none⟩])
  (.cond (.t 25) (.skip) (.seq (.reg [⟨some 27, .bins .eql (.t 24) (.c (.str [109, 97, 120])), none⟩,
    ⟨some 25, .mov (.t 27), none⟩])
  (.cond (.t 25) (.skip) (.seq (.reg [⟨some 28, .bins .eql (.t 24) (.c (.str [99, 108, 97, 109, 112])), none⟩,
    ⟨some 25, .mov (.t 28), none⟩])
  (.cond (.t 25) (.skip) (.reg [⟨some 29, .bins .eql (.t 24) (.c (.str [97, 98, 115])), none⟩,
    ⟨some 25, .mov (.t 29), none⟩])))))))
  (.cln [1, 4, 7, 8, 9, 24, 25] (.cond (.t 25) (.seq (.regd [⟨0, ⟨some 30, .mov (.t 9), none⟩, false, [], []⟩,
    ⟨1, ⟨some 31, .mov (.t 1), none⟩, false, [], []⟩,
    ⟨7, ⟨some 37, .load (some 2) (.t 7), none⟩, false, [], []⟩,
    ⟨2, ⟨some 32, .call (.t 30) [.t 31], none⟩, true, [0, 1], [7]⟩,
    ⟨3, ⟨some 33, .mov (.t 32), none⟩, false, [0, 1, 2], []⟩,
    ⟨4, ⟨some 34, .load (some 2) (.t 7), some (33, true)⟩, false, [0, 1, 2, 3], []⟩,
    ⟨5, ⟨some 35, .call (.c (.fn 165 [] [])) [.t 34], some (33, true)⟩, true, .range 5, [7]⟩,
    ⟨6, ⟨some 36, .pick (.t 33) (.t 35) (.c (.bool false)), none⟩, false, .range 6, []⟩,
    ⟨8, ⟨some 38, .call (.c (.fn 164 [] [])) [.t 36, .t 37], none⟩, true, .range 8, []⟩,
    ⟨9, ⟨some 39, .extract (.t 38) 0, none⟩, false, .range 9, []⟩,
    ⟨10, ⟨some 40, .extract (.t 38) 1, none⟩, false, .range 9, []⟩,
    ⟨11, ⟨none, .store (some 2) (.t 4) (.t 39), none⟩, true, .range 11, []⟩,
    ⟨12, ⟨some 5, .mov (.t 40), none⟩, false, .range 12, []⟩] (.range 13) 41)
  (.ret)) (.seq (.reg [⟨some 42, .bins .eql (.t 24) (.c (.str [100, 111, 116])), none⟩,
    ⟨some 41, .mov (.t 42), none⟩])
  (.cond (.t 41) (.seq (.regd [⟨0, ⟨some 43, .mov (.t 9), none⟩, false, [], []⟩,
    ⟨1, ⟨some 44, .mov (.t 1), none⟩, false, [], []⟩,
    ⟨7, ⟨some 50, .load (some 2) (.t 8), none⟩, false, [], []⟩,
    ⟨2, ⟨some 45, .call (.t 43) [.t 44], none⟩, true, [0, 1], [7]⟩,
    ⟨3, ⟨some 46, .mov (.t 45), none⟩, false, [0, 1, 2], []⟩,
    ⟨4, ⟨some 47, .load (some 2) (.t 7), some (46, true)⟩, false, [0, 1, 2, 3], []⟩,
    ⟨5, ⟨some 48, .call (.c (.fn 76 [] [])) [.t 47], some (46, true)⟩, true, .range 5, [7]⟩,
    ⟨6, ⟨some 49, .pick (.t 46) (.t 48) (.c (.bool false)), none⟩, false, .range 6, []⟩,
    ⟨8, ⟨some 51, .call (.c (.fn 164 [] [])) [.t 49, .t 50], none⟩, true, .range 8, []⟩,
    ⟨9, ⟨some 52, .extract (.t 51) 0, none⟩, false, .range 9, []⟩,
    ⟨10, ⟨some 53, .extract (.t 51) 1, none⟩, false, .range 9, []⟩,
    ⟨11, ⟨none, .store (some 2) (.t 4) (.t 52), none⟩, true, .range 11, []⟩,
    ⟨12, ⟨some 5, .mov (.t 53), none⟩, false, .range 12, []⟩] (.range 13) 54)
  (.ret)) (.seq (.reg [⟨some 55, .bins .eql (.t 24) (.c (.str [109, 105, 120])), none⟩,
    ⟨some 54, .mov (.t 55), none⟩])
  (.cond (.t 54) (.seq (.regd [⟨0, ⟨some 56, .mov (.t 9), none⟩, false, [], []⟩,
    ⟨1, ⟨some 57, .mov (.t 1), none⟩, false, [], []⟩,
    ⟨2, ⟨some 58, .slc 2 (.t 57) none (some (.c (.int .i64 2))) none, none⟩, false, [1], []⟩,
    ⟨20, ⟨some 76, .load (some 2) (.t 7), none⟩, false, [], []⟩,
    ⟨3, ⟨some 59, .call (.t 56) [.t 58], none⟩, true, [0, 1, 2], [20]⟩,
    ⟨4, ⟨some 60, .mov (.t 59), none⟩, false, [0, 1, 2, 3], []⟩,
    ⟨5, ⟨some 61, .mov (.t 1), some (60, true)⟩, false, .range 5, []⟩,
    ⟨6, ⟨some 62, .iaddr 2 (.t 61) (.c (.int .i64 2)), some (60, true)⟩, false, .range 6, []⟩,
    ⟨7, ⟨some 63, .load (some 2) (.t 62), some (60, true)⟩, false, .range 7, []⟩,
    ⟨8, ⟨some 64, .load (some 2) (.t 8), some (60, true)⟩, false, .range 5, []⟩,
    ⟨9, ⟨some 65, .eq false (.parts [(0, 1, .ei), (1, 1, .es)]) (.t 63) (.t 64), some (60, true)⟩, false, .range 9, []⟩,
    ⟨10, ⟨some 66, .pick (.t 60) (.t 65) (.c (.bool false)), none⟩, false, .range 10, []⟩,
    ⟨11, ⟨some 67, .mov (.t 66), none⟩, false, .range 11, []⟩,
    ⟨12, ⟨some 68, .load (some 2) (.t 7), some (67, true)⟩, false, .range 12, []⟩,
    ⟨13, ⟨some 69, .load (some 2) (.t 8), some (67, true)⟩, false, .range 12, []⟩,
    ⟨14, ⟨some 70, .eq false (.parts [(0, 1, .ei), (1, 1, .es)]) (.t 68) (.t 69), some (67, true)⟩, false, .range 14, []⟩,
    ⟨15, ⟨some 71, .mov (.t 70), some (67, true)⟩, false, .range 15, []⟩,
    ⟨16, ⟨some 72, .load (some 2) (.t 7), some (71, false)⟩, false, .range 16, []⟩,
    ⟨17, ⟨some 73, .call (.c (.fn 76 [] [])) [.t 72], some (71, false)⟩, true, .range 17, [20]⟩,
    ⟨18, ⟨some 74, .pick (.t 71) (.c (.bool true)) (.t 73), some (67, true)⟩, false, .range 18, []⟩,
    ⟨19, ⟨some 75, .pick (.t 67) (.t 74) (.c (.bool false)), none⟩, false, .range 19, []⟩,
    ⟨21, ⟨some 77, .call (.c (.fn 164 [] [])) [.t 75, .t 76], none⟩, true, .range 21, []⟩,
    ⟨22, ⟨some 78, .extract (.t 77) 0, none⟩, false, .range 22, []⟩,
    ⟨23, ⟨some 79, .extract (.t 77) 1, none⟩, false, .range 22, []⟩,
    ⟨24, ⟨none, .store (some 2) (.t 4) (.t 78), none⟩, true, .range 24, []⟩,
    ⟨25, ⟨some 5, .mov (.t 79), none⟩, false, .range 25, []⟩] (.range 26) 80)
  (.ret)) (.skip))))))))))
  (.cln [4, 7, 8] (.seq (.regd [⟨0, ⟨some 80, .load (some 2) (.t 7), none⟩, false, [], []⟩,
    ⟨1, ⟨some 81, .load (some 2) (.t 8), none⟩, false, [], []⟩,
    ⟨2, ⟨some 82, .eq false (.parts [(0, 1, .ei), (1, 1, .es)]) (.t 80) (.t 81), none⟩, false, [0, 1], []⟩,
    ⟨3, ⟨some 83, .load (some 2) (.t 8), none⟩, false, [], []⟩,
    ⟨4, ⟨some 84, .call (.c (.fn 164 [] [])) [.t 82, .t 83], none⟩, true, [0, 1, 2, 3], []⟩,
    ⟨5, ⟨some 85, .extract (.t 84) 0, none⟩, false, .range 5, []⟩,
    ⟨6, ⟨some 86, .extract (.t 84) 1, none⟩, false, .range 5, []⟩,
    ⟨7, ⟨none, .store (some 2) (.t 4) (.t 85), none⟩, true, .range 7, []⟩,
    ⟨8, ⟨some 5, .mov (.t 86), none⟩, false, .range 8, []⟩] (.range 9) 87)
  (.ret))))))))))) }
/-- frustum/types.FindFunction$1 -/
def p171 : PFn := { nparams := 2, ntmps := 8, nobjs := 0, pure := true, keep := false, results := [⟨3, none⟩], body := (.cln (List.range 2) (.seq (.reg [⟨some 2, .boxi (.t 0), none⟩,
    ⟨some 3, .mov (.c (.bool false)), none⟩])
  (.seq (.reg [⟨some 4, .faddr 0 (.t 2), none⟩,
    ⟨some 5, .load none (.t 4), none⟩,
    ⟨some 6, .load none (.t 1), none⟩,
    ⟨some 7, .bins .eql (.t 5) (.t 6), none⟩,
    ⟨some 3, .mov (.t 7), none⟩])
  (.ret)))) }
def p170l0 : PC := .loop (.cln [0, 1, 7, 8] (.seq (.reg [⟨some 9, .bini .lss (.t 8) (.t 7), none⟩])
  (.seq (.cond (.t 9) (.skip) (.exit 0))
  (.cln [0, 1, 7, 8] (.seq (.block 1 (.seq (.reg [⟨some 10, .mov (.t 8), none⟩,
    ⟨some 5, .mov (.t 10), none⟩])
  (.seq (.reg [⟨some 11, .mov (.t 1), none⟩,
    ⟨some 12, .mov (.t 0), none⟩,
    ⟨some 13, .mov (.t 5), none⟩,
    ⟨some 14, .iaddr 10 (.t 12) (.t 13), none⟩,
    ⟨some 15, .load (some 10) (.t 14), none⟩,
    ⟨some 16, .call (.t 11) [.t 15], none⟩])
  (.cond (.t 16) (.seq (.reg [⟨some 17, .mov (.t 5), none⟩,
    ⟨some 4, .mov (.t 17), none⟩])
  (.ret)) (.skip)))))
  (.cln [0, 1, 7, 8] (.reg [⟨some 18, .bini .add (.t 8) (.c (.int .i64 1)), none⟩,
    ⟨some 8, .mov (.t 18), none⟩])))))))
/-- slices.IndexFunc[[]frustum/api.Function,frustum/api.Function] -/
def p170 : PFn := { nparams := 2, ntmps := 19, nobjs := 0, pure := true, keep := false, results := [⟨4, none⟩], body := (.cln (List.range 2) (.seq (.reg [⟨some 4, .mov (.c (.int .i64 0)), none⟩])
  (.seq (.seq (.reg [⟨some 6, .mov (.t 0), none⟩,
    ⟨some 7, .lenl (.t 6), none⟩,
    ⟨some 8, .mov (.c (.int .i64 0)), none⟩])
  (.block 0 (p170l0)))
  (.cln [] (.seq (.reg [⟨some 4, .mov (.c (.int .i64 (-1))), none⟩])
  (.ret)))))) }
/-- frustum/types.FindFunction -/
def p134 : PFn := { nparams := 2, ntmps := 9, nobjs := 0, pure := true, keep := false, results := [⟨4, none⟩], body := (.cln (List.range 2) (.seq (.reg [⟨some 2, .boxi (.t 0), none⟩,
    ⟨some 3, .boxi (.t 1), none⟩,
    ⟨some 4, .mov (.c (.int .i64 0)), none⟩])
  (.seq (.reg [⟨some 5, .faddr 7 (.t 2), none⟩,
    ⟨some 6, .load none (.t 5), none⟩,
    ⟨some 7, .mkfn 171 [] [.t 3], none⟩,
    ⟨some 8, .call (.c (.fn 170 [] [])) [.t 6, .t 7], none⟩,
    ⟨some 4, .mov (.t 8), none⟩])
  (.ret)))) }
/-- frustum/types.call -/
def p132 : PFn := { nparams := 4, ntmps := 85, nobjs := 1, pure := true, keep := false, results := [⟨8, some (some 2)⟩, ⟨9, none⟩], body := (.cln (List.range 4) (.seq (.reg [⟨some 4, .boxi (.t 0), none⟩,
    ⟨some 6, .boxi (.t 2), none⟩,
    ⟨some 8, .alloc 0 (.agg [.int .i64 0, .str []]), none⟩,
    ⟨some 9, .mov (.c (.int .i64 0)), none⟩])
  (.seq (.seq (.reg [⟨some 13, .faddr 2 (.t 6), none⟩,
    ⟨some 14, .load none (.t 13), none⟩,
    ⟨some 15, .call (.c (.fn 133 [] [])) [.t 14], none⟩,
    ⟨some 10, .mov (.t 15), none⟩])
  (.seq (.reg [⟨some 16, .mov (.t 10), none⟩,
    ⟨some 17, .bini .gtr (.t 16) (.c (.int .i64 0)), none⟩])
  (.cond (.t 17) (.seq (.reg [⟨some 18, .load (some 9) (.t 4), none⟩,
    ⟨some 19, .mov (.t 10), none⟩,
    ⟨some 20, .mov (.t 3), none⟩,
    ⟨some 21, .call (.c (.fn 166 [] [])) [.t 18, .t 19, .t 20], none⟩,
    ⟨some 22, .extract (.t 21) 0, none⟩,
    ⟨some 23, .extract (.t 21) 1, none⟩,
    ⟨none, .store (some 2) (.t 8) (.t 22), none⟩,
    ⟨some 9, .mov (.t 23), none⟩])
  (.ret)) (.skip))))
  (.cln [1, 3, 4, 6, 8] (.seq (.seq (.reg [⟨some 24, .load (some 9) (.t 4), none⟩,
    ⟨some 25, .faddr 2 (.t 6), none⟩,
    ⟨some 26, .load none (.t 25), none⟩,
    ⟨some 27, .call (.c (.fn 46 [] [])) [.t 24, .t 26], none⟩,
    ⟨some 11, .mov (.t 27), none⟩])
  (.seq (.reg [⟨some 28, .mov (.t 11), none⟩,
    ⟨some 29, .bini .geq (.t 28) (.c (.int .i64 0)), none⟩])
  (.cond (.t 29) (.seq (.regd [⟨0, ⟨some 30, .mov (.t 3), none⟩, false, [], []⟩,
    ⟨1, ⟨some 31, .faddr 1 (.t 4), none⟩, false, [], []⟩,
    ⟨2, ⟨some 32, .load none (.t 31), none⟩, false, [1], []⟩,
    ⟨3, ⟨some 33, .mov (.t 11), none⟩, false, [], []⟩,
    ⟨4, ⟨some 34, .iaddr 2 (.t 32) (.t 33), none⟩, false, [1, 2, 3], []⟩,
    ⟨5, ⟨some 35, .faddr 1 (.t 34), none⟩, false, [1, 2, 3, 4], []⟩,
    ⟨6, ⟨some 36, .load none (.t 35), none⟩, false, [1, 2, 3, 4, 5], []⟩,
    ⟨7, ⟨some 37, .faddr 2 (.t 6), none⟩, false, [], []⟩,
    ⟨8, ⟨some 38, .load none (.t 37), none⟩, false, [7], []⟩,
    ⟨9, ⟨some 39, .build [.int .i64 0, .str []] [(0, 1, .c (.int .i64 8)), (1, 1, .t 38)], none⟩, false, [7, 8], []⟩,
    ⟨10, ⟨some 40, .call (.c (.fn 167 [] [])) [.t 30, .t 36, .t 39], none⟩, true, .range 10, []⟩,
    ⟨11, ⟨some 41, .extract (.t 40) 0, none⟩, false, .range 11, []⟩,
    ⟨12, ⟨some 42, .extract (.t 40) 1, none⟩, false, .range 11, []⟩,
    ⟨13, ⟨none, .store (some 2) (.t 8) (.t 41), none⟩, true, .range 13, []⟩,
    ⟨14, ⟨some 9, .mov (.t 42), none⟩, false, .range 14, []⟩] (.range 15) 43)
  (.ret)) (.skip))))
  (.cln [1, 3, 4, 6, 8] (.seq (.seq (.reg [⟨some 43, .load (some 9) (.t 4), none⟩,
    ⟨some 44, .load (some 5) (.t 6), none⟩,
    ⟨some 45, .call (.c (.fn 92 [] [])) [.t 43, .t 44], none⟩])
  (.cond (.t 45) (.seq (.reg [⟨some 46, .load (some 9) (.t 4), none⟩,
    ⟨some 47, .mov (.t 1), none⟩,
    ⟨some 48, .load (some 5) (.t 6), none⟩,
    ⟨some 49, .mov (.t 3), none⟩,
    ⟨some 50, .call (.c (.fn 168 [] [])) [.t 46, .t 47, .t 48, .t 49], none⟩,
    ⟨some 51, .extract (.t 50) 0, none⟩,
    ⟨some 52, .extract (.t 50) 1, none⟩,
    ⟨none, .store (some 2) (.t 8) (.t 51), none⟩,
    ⟨some 9, .mov (.t 52), none⟩])
  (.ret)) (.skip)))
  (.cln [3, 4, 6, 8] (.seq (.seq (.reg [⟨some 53, .faddr 2 (.t 6), none⟩,
    ⟨some 54, .load none (.t 53), none⟩,
    ⟨some 55, .call (.c (.fn 86 [] [])) [.t 54], none⟩])
  (.cond (.t 55) (.seq (.reg [⟨some 56, .faddr 2 (.t 6), none⟩,
    ⟨some 57, .load none (.t 56), none⟩,
    ⟨some 58, .mov (.t 3), none⟩,
    ⟨some 59, .call (.c (.fn 169 [] [])) [.t 57, .t 58], none⟩,
    ⟨some 60, .extract (.t 59) 0, none⟩,
    ⟨some 61, .extract (.t 59) 1, none⟩,
    ⟨none, .store (some 2) (.t 8) (.t 60), none⟩,
    ⟨some 9, .mov (.t 61), none⟩])
  (.ret)) (.skip)))
  (.cln [3, 4, 6, 8] (.seq (.seq (.reg [⟨some 62, .load (some 9) (.t 4), none⟩,
    ⟨some 63, .faddr 2 (.t 6), none⟩,
    ⟨some 64, .load none (.t 63), none⟩,
    ⟨some 65, .call (.c (.fn 134 [] [])) [.t 62, .t 64], none⟩,
    ⟨some 12, .mov (.t 65), none⟩])
  (.seq (.reg [⟨some 66, .mov (.t 12), none⟩,
    ⟨some 67, .bini .geq (.t 66) (.c (.int .i64 0)), none⟩])
  (.cond (.t 67) (.seq (.regd [⟨0, ⟨some 68, .mov (.t 3), none⟩, false, [], []⟩,
    ⟨1, ⟨some 69, .faddr 7 (.t 4), none⟩, false, [], []⟩,
    ⟨2, ⟨some 70, .load none (.t 69), none⟩, false, [1], []⟩,
    ⟨3, ⟨some 71, .mov (.t 12), none⟩, false, [], []⟩,
    ⟨4, ⟨some 72, .iaddr 10 (.t 70) (.t 71), none⟩, false, [1, 2, 3], []⟩,
    ⟨5, ⟨some 73, .faddr 1 (.t 72), none⟩, false, [1, 2, 3, 4], []⟩,
    ⟨6, ⟨some 74, .load none (.t 73), none⟩, false, [1, 2, 3, 4, 5], []⟩,
    ⟨7, ⟨some 75, .faddr 7 (.t 4), none⟩, false, [], []⟩,
    ⟨8, ⟨some 76, .load none (.t 75), none⟩, false, [7], []⟩,
    ⟨9, ⟨some 77, .mov (.t 12), none⟩, false, [], []⟩,
    ⟨10, ⟨some 78, .iaddr 10 (.t 76) (.t 77), none⟩, false, [7, 8, 9], []⟩,
    ⟨11, ⟨some 79, .faddr 2 (.t 78), none⟩, false, [7, 8, 9, 10], []⟩,
    ⟨12, ⟨some 80, .load (some 2) (.t 79), none⟩, false, [7, 8, 9, 10, 11], []⟩,
    ⟨13, ⟨some 81, .call (.c (.fn 167 [] [])) [.t 68, .t 74, .t 80], none⟩, true, .range 13, []⟩,
    ⟨14, ⟨some 82, .extract (.t 81) 0, none⟩, false, .range 14, []⟩,
    ⟨15, ⟨some 83, .extract (.t 81) 1, none⟩, false, .range 14, []⟩,
    ⟨16, ⟨none, .store (some 2) (.t 8) (.t 82), none⟩, true, .range 16, []⟩,
    ⟨17, ⟨some 9, .mov (.t 83), none⟩, false, .range 17, []⟩] (.range 18) 84)
  (.ret)) (.skip))))
  (.cln [8] (.seq (.reg [⟨some 84, .build [.int .i64 0, .str []] [], none⟩,
    ⟨none, .store (some 2) (.t 8) (.t 84), none⟩,
    ⟨some 9, .mov (.c (.int .i64 13)), none⟩])
  (.ret)))))))))))))) }
/-- frustum/types.node -/
def p93 : PFn := { nparams := 4, ntmps := 104, nobjs := 2, pure := true, keep := false, results := [⟨8, some (some 2)⟩, ⟨9, none⟩], body := (.cln (List.range 4) (.seq (.reg [⟨some 4, .boxi (.t 0), none⟩,
    ⟨some 6, .boxi (.t 2), none⟩,
    ⟨some 8, .alloc 0 (.agg [.int .i64 0, .str []]), none⟩,
    ⟨some 9, .mov (.c (.int .i64 0)), none⟩])
  (.seq (.seq (.reg [⟨some 12, .faddr 0 (.t 6), none⟩,
    ⟨some 13, .load none (.t 12), none⟩])
  (.block 0 (.seq (.reg [⟨some 15, .bini .eql (.t 13) (.c (.int .i64 1)), none⟩,
    ⟨some 14, .mov (.t 15), none⟩])
  (.cond (.t 14) (.seq (.reg [⟨some 16, .faddr 3 (.t 6), none⟩,
    ⟨some 17, .load none (.t 16), none⟩,
    ⟨some 18, .call (.c (.fn 127 [] [])) [.c (.int .i64 1), .t 17, .c (.int .i64 536870911)], none⟩,
    ⟨some 19, .extract (.t 18) 0, none⟩,
    ⟨some 20, .extract (.t 18) 1, none⟩,
    ⟨none, .store (some 2) (.t 8) (.t 19), none⟩,
    ⟨some 9, .mov (.t 20), none⟩])
  (.ret)) (.seq (.reg [⟨some 22, .bini .eql (.t 13) (.c (.int .i64 2)), none⟩,
    ⟨some 21, .mov (.t 22), none⟩])
  (.cond (.t 21) (.seq (.reg [⟨some 23, .faddr 3 (.t 6), none⟩,
    ⟨some 24, .load none (.t 23), none⟩,
    ⟨some 25, .call (.c (.fn 127 [] [])) [.c (.int .i64 3), .t 24, .c (.int .i64 2147483647)], none⟩,
    ⟨some 26, .extract (.t 25) 0, none⟩,
    ⟨some 27, .extract (.t 25) 1, none⟩,
    ⟨none, .store (some 2) (.t 8) (.t 26), none⟩,
    ⟨some 9, .mov (.t 27), none⟩])
  (.ret)) (.seq (.reg [⟨some 29, .bini .eql (.t 13) (.c (.int .i64 3)), none⟩,
    ⟨some 28, .mov (.t 29), none⟩])
  (.cond (.t 28) (.seq (.reg [⟨some 30, .faddr 3 (.t 6), none⟩,
    ⟨some 31, .load none (.t 30), none⟩,
    ⟨some 32, .call (.c (.fn 127 [] [])) [.c (.int .i64 4), .t 31, .c (.int .i64 1)], none⟩,
    ⟨some 33, .extract (.t 32) 0, none⟩,
    ⟨some 34, .extract (.t 32) 1, none⟩,
    ⟨none, .store (some 2) (.t 8) (.t 33), none⟩,
    ⟨some 9, .mov (.t 34), none⟩])
  (.ret)) (.seq (.reg [⟨some 36, .bini .eql (.t 13) (.c (.int .i64 4)), none⟩,
    ⟨some 35, .mov (.t 36), none⟩])
  (.cond (.t 35) (.seq (.seq (.reg [⟨some 38, .load (some 9) (.t 4), none⟩,
    ⟨some 39, .mov (.t 1), none⟩,
    ⟨some 40, .faddr 2 (.t 6), none⟩,
    ⟨some 41, .load none (.t 40), none⟩,
    ⟨some 42, .call (.c (.fn 128 [] [])) [.t 38, .t 39, .t 41], none⟩,
    ⟨some 37, .mov (.t 42), none⟩,
    ⟨some 43, .extract (.t 37) 0, none⟩,
    ⟨some 44, .extract (.t 37) 1, none⟩,
    ⟨some 10, .alloc 1 (.agg [.int .i64 0, .str []]), none⟩,
    ⟨none, .store (some 2) (.t 10) (.t 43), none⟩,
    ⟨some 11, .mov (.t 44), none⟩])
  (.seq (.reg [⟨some 45, .mov (.t 11), none⟩])
  (.cond (.t 45) (.seq (.reg [⟨some 46, .load (some 2) (.t 10), none⟩,
    ⟨none, .store (some 2) (.t 8) (.t 46), none⟩,
    ⟨some 9, .mov (.c (.int .i64 0)), none⟩])
  (.ret)) (.skip))))
  (.cln [8] (.seq (.reg [⟨some 47, .build [.int .i64 0, .str []] [], none⟩,
    ⟨none, .store (some 2) (.t 8) (.t 47), none⟩,
    ⟨some 9, .mov (.c (.int .i64 13)), none⟩])
  (.ret)))) (.seq (.reg [⟨some 49, .bini .eql (.t 13) (.c (.int .i64 5)), none⟩,
    ⟨some 48, .mov (.t 49), none⟩])
  (.cond (.t 48) (.seq (.regd [⟨0, ⟨some 50, .faddr 1 (.t 6), none⟩, false, [], []⟩,
    ⟨1, ⟨some 51, .load none (.t 50), none⟩, false, [0], []⟩,
    ⟨2, ⟨some 52, .mov (.t 3), none⟩, false, [], []⟩,
    ⟨3, ⟨some 53, .iaddr 2 (.t 52) (.c (.int .i64 0)), none⟩, false, [2], []⟩,
    ⟨4, ⟨some 54, .load (some 2) (.t 53), none⟩, false, [2, 3], []⟩,
    ⟨5, ⟨some 55, .call (.c (.fn 129 [] [])) [.t 51, .t 54], none⟩, true, .range 5, []⟩,
    ⟨6, ⟨some 56, .extract (.t 55) 0, none⟩, false, .range 6, []⟩,
    ⟨7, ⟨some 57, .extract (.t 55) 1, none⟩, false, .range 6, []⟩,
    ⟨8, ⟨none, .store (some 2) (.t 8) (.t 56), none⟩, true, .range 8, []⟩,
    ⟨9, ⟨some 9, .mov (.t 57), none⟩, false, .range 9, []⟩] (.range 10) 58)
  (.ret)) (.seq (.reg [⟨some 59, .bini .eql (.t 13) (.c (.int .i64 6)), none⟩,
    ⟨some 58, .mov (.t 59), none⟩])
  (.cond (.t 58) (.seq (.regd [⟨0, ⟨some 60, .faddr 1 (.t 6), none⟩, false, [], []⟩,
    ⟨1, ⟨some 61, .load none (.t 60), none⟩, false, [0], []⟩,
    ⟨2, ⟨some 62, .mov (.t 3), none⟩, false, [], []⟩,
    ⟨3, ⟨some 63, .iaddr 2 (.t 62) (.c (.int .i64 0)), none⟩, false, [2], []⟩,
    ⟨4, ⟨some 64, .load (some 2) (.t 63), none⟩, false, [2, 3], []⟩,
    ⟨5, ⟨some 65, .mov (.t 3), none⟩, false, [], []⟩,
    ⟨6, ⟨some 66, .iaddr 2 (.t 65) (.c (.int .i64 1)), none⟩, false, [5], []⟩,
    ⟨7, ⟨some 67, .load (some 2) (.t 66), none⟩, false, [5, 6], []⟩,
    ⟨8, ⟨some 68, .call (.c (.fn 130 [] [])) [.t 61, .t 64, .t 67], none⟩, true, .range 8, []⟩,
    ⟨9, ⟨some 69, .extract (.t 68) 0, none⟩, false, .range 9, []⟩,
    ⟨10, ⟨some 70, .extract (.t 68) 1, none⟩, false, .range 9, []⟩,
    ⟨11, ⟨none, .store (some 2) (.t 8) (.t 69), none⟩, true, .range 11, []⟩,
    ⟨12, ⟨some 9, .mov (.t 70), none⟩, false, .range 12, []⟩] (.range 13) 71)
  (.ret)) (.seq (.reg [⟨some 72, .bini .eql (.t 13) (.c (.int .i64 8)), none⟩,
    ⟨some 71, .mov (.t 72), none⟩])
  (.cond (.t 71) (.seq (.regd [⟨0, ⟨some 73, .load (some 9) (.t 4), none⟩, false, [], []⟩,
    ⟨1, ⟨some 74, .mov (.t 3), none⟩, false, [], []⟩,
    ⟨2, ⟨some 75, .iaddr 2 (.t 74) (.c (.int .i64 0)), none⟩, false, [1], []⟩,
    ⟨3, ⟨some 76, .load (some 2) (.t 75), none⟩, false, [1, 2], []⟩,
    ⟨4, ⟨some 77, .faddr 2 (.t 6), none⟩, false, [], []⟩,
    ⟨5, ⟨some 78, .load none (.t 77), none⟩, false, [4], []⟩,
    ⟨6, ⟨some 79, .call (.c (.fn 131 [] [])) [.t 73, .t 76, .t 78], none⟩, true, .range 6, []⟩,
    ⟨7, ⟨some 80, .extract (.t 79) 0, none⟩, false, .range 7, []⟩,
    ⟨8, ⟨some 81, .extract (.t 79) 1, none⟩, false, .range 7, []⟩,
    ⟨9, ⟨none, .store (some 2) (.t 8) (.t 80), none⟩, true, .range 9, []⟩,
    ⟨10, ⟨some 9, .mov (.t 81), none⟩, false, .range 10, []⟩] (.range 11) 82)
  (.ret)) (.seq (.reg [⟨some 83, .bini .eql (.t 13) (.c (.int .i64 9)), none⟩,
    ⟨some 82, .mov (.t 83), none⟩])
  (.cond (.t 82) (.seq (.seq (.regd [⟨0, ⟨some 84, .mov (.t 3), none⟩, false, [], []⟩,
    ⟨1, ⟨some 85, .iaddr 2 (.t 84) (.c (.int .i64 0)), none⟩, false, [0], []⟩,
    ⟨2, ⟨some 86, .load (some 2) (.t 85), none⟩, false, [0, 1], []⟩,
    ⟨3, ⟨some 87, .call (.c (.fn 76 [] [])) [.t 86], none⟩, true, [0, 1, 2], []⟩,
    ⟨4, ⟨some 88, .mov (.t 87), none⟩, false, [0, 1, 2, 3], []⟩,
    ⟨5, ⟨some 89, .mov (.t 3), some (88, true)⟩, false, .range 5, []⟩,
    ⟨6, ⟨some 90, .iaddr 2 (.t 89) (.c (.int .i64 1)), some (88, true)⟩, false, .range 6, []⟩,
    ⟨7, ⟨some 91, .load (some 2) (.t 90), some (88, true)⟩, false, .range 7, []⟩,
    ⟨8, ⟨some 92, .call (.c (.fn 123 [] [])) [.c (.int .i64 3)], some (88, true)⟩, true, .range 5, [6, 7]⟩,
    ⟨9, ⟨some 93, .eq false (.parts [(0, 1, .ei), (1, 1, .es)]) (.t 91) (.t 92), some (88, true)⟩, false, .range 9, []⟩,
    ⟨10, ⟨some 94, .pick (.t 88) (.t 93) (.c (.bool false)), none⟩, false, .range 10, []⟩] (.range 11) 95)
  (.cond (.t 94) (.seq (.reg [⟨some 95, .call (.c (.fn 123 [] [])) [.c (.int .i64 1)], none⟩,
    ⟨none, .store (some 2) (.t 8) (.t 95), none⟩,
    ⟨some 9, .mov (.c (.int .i64 0)), none⟩])
  (.ret)) (.skip)))
  (.cln [8] (.seq (.reg [⟨some 96, .build [.int .i64 0, .str []] [], none⟩,
    ⟨none, .store (some 2) (.t 8) (.t 96), none⟩,
    ⟨some 9, .mov (.c (.int .i64 12)), none⟩])
  (.ret)))) (.skip)))))))))))))))))))
  (.cln [1, 3, 4, 6, 8] (.seq (.reg [⟨some 97, .load (some 9) (.t 4), none⟩,
    ⟨some 98, .mov (.t 1), none⟩,
    ⟨some 99, .load (some 5) (.t 6), none⟩,
    ⟨some 100, .mov (.t 3), none⟩,
    ⟨some 101, .call (.c (.fn 132 [] [])) [.t 97, .t 98, .t 99, .t 100], none⟩,
    ⟨some 102, .extract (.t 101) 0, none⟩,
    ⟨some 103, .extract (.t 101) 1, none⟩,
    ⟨none, .store (some 2) (.t 8) (.t 102), none⟩,
    ⟨some 9, .mov (.t 103), none⟩])
  (.ret)))))) }
def p63l0 : PC := .loop (.cln [1, 3, 5, 6, 8, 33, 34, 35] (.seq (.reg [⟨some 36, .bini .lss (.t 35) (.t 34), none⟩])
  (.seq (.cond (.t 36) (.skip) (.exit 0))
  (.cln [1, 3, 5, 6, 8, 33, 34, 35] (.seq (.block 1 (.seq (.reg [⟨some 37, .mov (.t 35), none⟩,
    ⟨some 38, .iaddr 5 (.t 33) (.t 35), none⟩,
    ⟨some 39, .load (some 5) (.t 38), none⟩,
    ⟨some 10, .alloc 2 (.agg [.int .i64 0, .int .i64 0, .str [], .int .i64 0, .vs .nil []]), none⟩,
    ⟨some 9, .mov (.t 37), none⟩,
    ⟨none, .store (some 5) (.t 10) (.t 39), none⟩])
  (.seq (.seq (.reg [⟨some 40, .mov (.t 9), none⟩,
    ⟨some 41, .bini .eql (.t 40) (.c (.int .i64 0)), none⟩,
    ⟨some 42, .mov (.t 41), none⟩,
    ⟨some 43, .load (some 9) (.t 3), some (42, true)⟩,
    ⟨some 44, .load (some 5) (.t 5), some (42, true)⟩,
    ⟨some 45, .call (.c (.fn 92 [] [])) [.t 43, .t 44], some (42, true)⟩,
    ⟨some 46, .pick (.t 42) (.t 45) (.c (.bool false)), none⟩])
  (.cond (.t 46) (.exit 1) (.skip)))
  (.cln [1, 3, 5, 6, 8, 9, 10, 33, 34, 35] (.seq (.reg [⟨some 48, .load (some 9) (.t 3), none⟩,
    ⟨some 49, .mov (.t 1), none⟩,
    ⟨some 50, .load (some 5) (.t 10), none⟩,
    ⟨some 51, .call (.c (.fn 63 [] [])) [.t 48, .t 49, .t 50], none⟩,
    ⟨some 47, .mov (.t 51), none⟩,
    ⟨some 52, .extract (.t 47) 0, none⟩,
    ⟨some 53, .extract (.t 47) 1, none⟩,
    ⟨some 11, .alloc 3 (.agg [.int .i64 0, .str []]), none⟩,
    ⟨none, .store (some 2) (.t 11) (.t 52), none⟩,
    ⟨some 12, .mov (.t 53), none⟩])
  (.seq (.seq (.reg [⟨some 54, .mov (.t 12), none⟩,
    ⟨some 55, .bini .neq (.t 54) (.c (.int .i64 0)), none⟩])
  (.cond (.t 55) (.seq (.reg [⟨some 56, .build [.int .i64 0, .str []] [], none⟩,
    ⟨some 57, .mov (.t 12), none⟩,
    ⟨none, .store (some 2) (.t 6) (.t 56), none⟩,
    ⟨some 7, .mov (.t 57), none⟩])
  (.ret)) (.skip)))
  (.cln [1, 3, 5, 6, 8, 9, 11, 33, 34, 35] (.reg [⟨some 58, .mov (.t 8), none⟩,
    ⟨some 59, .mov (.t 9), none⟩,
    ⟨some 60, .load (some 2) (.t 11), none⟩,
    ⟨some 61, .iaddr 2 (.t 58) (.t 59), none⟩,
    ⟨none, .store (some 2) (.t 61) (.t 60), none⟩]))))))))
  (.cln [1, 3, 5, 6, 8, 33, 34, 35] (.reg [⟨some 62, .bini .add (.t 35) (.c (.int .i64 1)), none⟩,
    ⟨some 35, .mov (.t 62), none⟩])))))))
/-- frustum/types.ExprType -/
def p63 : PFn := { nparams := 3, ntmps := 76, nobjs := 5, pure := true, keep := false, results := [⟨6, some (some 2)⟩, ⟨7, none⟩], body := (.cln (List.range 3) (.seq (.reg [⟨some 3, .boxi (.t 0), none⟩,
    ⟨some 5, .boxi (.t 2), none⟩,
    ⟨some 6, .alloc 0 (.agg [.int .i64 0, .str []]), none⟩,
    ⟨some 7, .mov (.c (.int .i64 0)), none⟩])
  (.seq (.seq (.regd [⟨0, ⟨some 15, .faddr 0 (.t 5), none⟩, false, [], []⟩,
    ⟨1, ⟨some 16, .load none (.t 15), none⟩, false, [0], []⟩,
    ⟨2, ⟨some 17, .bini .neq (.t 16) (.c (.int .i64 7)), none⟩, false, [0, 1], []⟩,
    ⟨3, ⟨some 18, .mov (.t 17), none⟩, false, [0, 1, 2], []⟩,
    ⟨4, ⟨some 19, .faddr 4 (.t 5), some (18, true)⟩, false, [0, 1, 2, 3], []⟩,
    ⟨5, ⟨some 20, .load none (.t 19), some (18, true)⟩, false, .range 5, []⟩,
    ⟨6, ⟨some 21, .lenl (.t 20), some (18, true)⟩, false, .range 6, []⟩,
    ⟨7, ⟨some 22, .faddr 0 (.t 5), some (18, true)⟩, false, [0, 1, 2, 3], []⟩,
    ⟨8, ⟨some 23, .load none (.t 22), some (18, true)⟩, false, [0, 1, 2, 3, 7], []⟩,
    ⟨9, ⟨some 24, .call (.c (.fn 91 [] [])) [.t 23], some (18, true)⟩, true, [0, 1, 2, 3, 7, 8], [4, 5, 6]⟩,
    ⟨10, ⟨some 25, .bini .neq (.t 21) (.t 24), some (18, true)⟩, false, .range 10, []⟩,
    ⟨11, ⟨some 26, .pick (.t 18) (.t 25) (.c (.bool false)), none⟩, false, .range 11, []⟩] (.range 12) 27)
  (.cond (.t 26) (.seq (.reg [⟨some 27, .build [.int .i64 0, .str []] [], none⟩,
    ⟨none, .store (some 2) (.t 6) (.t 27), none⟩,
    ⟨some 7, .mov (.c (.int .i64 10)), none⟩])
  (.ret)) (.skip)))
  (.cln [1, 3, 5, 6] (.seq (.reg [⟨some 28, .faddr 4 (.t 5), none⟩,
    ⟨some 29, .load none (.t 28), none⟩,
    ⟨some 30, .lenl (.t 29), none⟩,
    ⟨some 31, .mkslice 1 true 24 (.agg [.int .i64 0, .str []]) (.t 30) (.t 30), none⟩,
    ⟨some 8, .mov (.t 31), none⟩])
  (.seq (.seq (.reg [⟨some 32, .faddr 4 (.t 5), none⟩,
    ⟨some 33, .load none (.t 32), none⟩,
    ⟨some 34, .lenl (.t 33), none⟩,
    ⟨some 35, .mov (.c (.int .i64 0)), none⟩])
  (.block 0 (p63l0)))
  (.cln [1, 3, 5, 6, 8] (.seq (.reg [⟨some 64, .load (some 9) (.t 3), none⟩,
    ⟨some 65, .mov (.t 1), none⟩,
    ⟨some 66, .load (some 5) (.t 5), none⟩,
    ⟨some 67, .mov (.t 8), none⟩,
    ⟨some 68, .call (.c (.fn 93 [] [])) [.t 64, .t 65, .t 66, .t 67], none⟩,
    ⟨some 63, .mov (.t 68), none⟩,
    ⟨some 69, .extract (.t 63) 0, none⟩,
    ⟨some 70, .extract (.t 63) 1, none⟩,
    ⟨some 13, .alloc 4 (.agg [.int .i64 0, .str []]), none⟩,
    ⟨none, .store (some 2) (.t 13) (.t 69), none⟩,
    ⟨some 14, .mov (.t 70), none⟩])
  (.seq (.seq (.reg [⟨some 71, .mov (.t 14), none⟩,
    ⟨some 72, .bini .neq (.t 71) (.c (.int .i64 0)), none⟩])
  (.cond (.t 72) (.seq (.reg [⟨some 73, .build [.int .i64 0, .str []] [], none⟩,
    ⟨some 74, .mov (.t 14), none⟩,
    ⟨none, .store (some 2) (.t 6) (.t 73), none⟩,
    ⟨some 7, .mov (.t 74), none⟩])
  (.ret)) (.skip)))
  (.cln [6, 13] (.seq (.reg [⟨some 75, .load (some 2) (.t 13), none⟩,
    ⟨none, .store (some 2) (.t 6) (.t 75), none⟩,
    ⟨some 7, .mov (.c (.int .i64 0)), none⟩])
  (.ret)))))))))))) }
/-- (*frustum/types.body).expr -/
def p120 : PFn := { nparams := 3, ntmps := 29, nobjs := 1, pure := false, keep := false, results := [⟨6, none⟩], body := (.cln (List.range 3) (.seq (.reg [⟨some 4, .boxi (.t 1), none⟩,
    ⟨some 5, .boxi (.t 2), none⟩,
    ⟨some 6, .mov (.c (.int .i64 0)), none⟩])
  (.seq (.regd [⟨0, ⟨some 10, .mov (.t 0), none⟩, false, [], []⟩,
    ⟨1, ⟨some 11, .nilc (.t 10), none⟩, false, [0], []⟩,
    ⟨2, ⟨some 12, .faddr 0 (.t 11), none⟩, false, [0, 1], []⟩,
    ⟨3, ⟨some 13, .load (some 9) (.t 12), none⟩, false, [0, 1, 2], []⟩,
    ⟨4, ⟨some 14, .mov (.t 0), none⟩, false, [], []⟩,
    ⟨5, ⟨some 15, .nilc (.t 14), none⟩, false, [4], []⟩,
    ⟨6, ⟨some 16, .faddr 9 (.t 15), none⟩, false, [4, 5], []⟩,
    ⟨7, ⟨some 17, .load none (.t 16), none⟩, false, [4, 5, 6], []⟩,
    ⟨8, ⟨some 18, .load (some 5) (.t 4), none⟩, false, [], []⟩,
    ⟨13, ⟨some 7, .alloc 0 (.agg [.int .i64 0, .str []]), none⟩, false, [], []⟩,
    ⟨9, ⟨some 19, .call (.c (.fn 63 [] [])) [.t 13, .t 17, .t 18], none⟩, true, .range 9, [13]⟩,
    ⟨10, ⟨some 9, .mov (.t 19), none⟩, false, .range 10, []⟩,
    ⟨11, ⟨some 20, .extract (.t 9) 0, none⟩, false, .range 11, []⟩,
    ⟨12, ⟨some 21, .extract (.t 9) 1, none⟩, false, .range 11, []⟩,
    ⟨14, ⟨none, .store (some 2) (.t 7) (.t 20), none⟩, true, (.range 12 ++ [13]), []⟩,
    ⟨15, ⟨some 8, .mov (.t 21), none⟩, false, .range 15, []⟩] ((.range 12 ++ [13, 14, 12, 15])) 22)
  (.seq (.seq (.reg [⟨some 22, .mov (.t 8), none⟩,
    ⟨some 23, .bini .neq (.t 22) (.c (.int .i64 0)), none⟩])
  (.cond (.t 23) (.seq (.reg [⟨some 24, .mov (.t 8), none⟩,
    ⟨some 6, .mov (.t 24), none⟩])
  (.ret)) (.skip)))
  (.cln [5, 7] (.seq (.reg [⟨some 25, .load (some 2) (.t 7), none⟩,
    ⟨some 26, .load (some 2) (.t 5), none⟩,
    ⟨some 27, .eq true (.parts [(0, 1, .ei), (1, 1, .es)]) (.t 25) (.t 26), none⟩,
    ⟨some 28, .call (.c (.fn 40 [] [])) [.t 27, .c (.int .i64 12)], none⟩,
    ⟨some 6, .mov (.t 28), none⟩])
  (.ret))))))) }
/-- frustum/types.root -/
def p161 : PFn := { nparams := 1, ntmps := 32, nobjs := 0, pure := true, keep := false, results := [⟨2, none⟩, ⟨3, none⟩], body := (.cln (List.range 1) (.seq (.reg [⟨some 1, .boxi (.t 0), none⟩,
    ⟨some 2, .mov (.c (.str [])), none⟩,
    ⟨some 3, .mov (.c (.bool false)), none⟩])
  (.seq (.block 0 (.seq (.reg [⟨some 5, .faddr 0 (.t 1), none⟩,
    ⟨some 6, .load none (.t 5), none⟩,
    ⟨some 7, .bini .eql (.t 6) (.c (.int .i64 4)), none⟩,
    ⟨some 4, .mov (.t 7), none⟩])
  (.cond (.t 4) (.seq (.reg [⟨some 8, .faddr 2 (.t 1), none⟩,
    ⟨some 9, .load none (.t 8), none⟩,
    ⟨some 2, .mov (.t 9), none⟩,
    ⟨some 3, .mov (.c (.bool true)), none⟩])
  (.ret)) (.seq (.reg [⟨some 11, .faddr 0 (.t 1), none⟩,
    ⟨some 12, .load none (.t 11), none⟩,
    ⟨some 13, .bini .eql (.t 12) (.c (.int .i64 8)), none⟩,
    ⟨some 14, .mov (.t 13), none⟩,
    ⟨some 15, .faddr 0 (.t 1), some (14, false)⟩,
    ⟨some 16, .load none (.t 15), some (14, false)⟩,
    ⟨some 17, .bini .eql (.t 16) (.c (.int .i64 9)), some (14, false)⟩,
    ⟨some 18, .pick (.t 14) (.c (.bool true)) (.t 17), none⟩,
    ⟨some 19, .mov (.t 18), none⟩,
    ⟨some 20, .faddr 4 (.t 1), some (19, true)⟩,
    ⟨some 21, .load none (.t 20), some (19, true)⟩,
    ⟨some 22, .lenl (.t 21), some (19, true)⟩,
    ⟨some 23, .bini .gtr (.t 22) (.c (.int .i64 0)), some (19, true)⟩,
    ⟨some 24, .pick (.t 19) (.t 23) (.c (.bool false)), none⟩,
    ⟨some 10, .mov (.t 24), none⟩])
  (.cond (.t 10) (.seq (.reg [⟨some 25, .faddr 4 (.t 1), none⟩,
    ⟨some 26, .load none (.t 25), none⟩,
    ⟨some 27, .iaddr 5 (.t 26) (.c (.int .i64 0)), none⟩,
    ⟨some 28, .load (some 5) (.t 27), none⟩,
    ⟨some 29, .call (.c (.fn 161 [] [])) [.t 28], none⟩,
    ⟨some 30, .extract (.t 29) 0, none⟩,
    ⟨some 31, .extract (.t 29) 1, none⟩,
    ⟨some 2, .mov (.t 30), none⟩,
    ⟨some 3, .mov (.t 31), none⟩])
  (.ret)) (.skip))))))
  (.cln [] (.seq (.reg [⟨some 2, .mov (.c (.str [])), none⟩,
    ⟨some 3, .mov (.c (.bool false)), none⟩])
  (.ret)))))) }
/-- (*frustum/types.body).assign -/
def p121 : PFn := { nparams := 2, ntmps := 80, nobjs := 1, pure := false, keep := false, results := [⟨4, none⟩], body := (.cln (List.range 2) (.seq (.reg [⟨some 3, .boxi (.t 1), none⟩,
    ⟨some 4, .mov (.c (.int .i64 0)), none⟩])
  (.seq (.reg [⟨some 11, .faddr 4 (.t 3), none⟩,
    ⟨some 12, .load (some 5) (.t 11), none⟩,
    ⟨some 13, .call (.c (.fn 161 [] [])) [.t 12], none⟩,
    ⟨some 10, .mov (.t 13), none⟩,
    ⟨some 14, .extract (.t 10) 0, none⟩,
    ⟨some 15, .extract (.t 10) 1, none⟩,
    ⟨some 5, .mov (.t 14), none⟩,
    ⟨some 6, .mov (.t 15), none⟩])
  (.seq (.seq (.reg [⟨some 16, .mov (.t 6), none⟩,
    ⟨some 17, .notb (.t 16), none⟩])
  (.cond (.t 17) (.seq (.reg [⟨some 4, .mov (.c (.int .i64 10)), none⟩])
  (.ret)) (.skip)))
  (.cln [0, 3, 5] (.seq (.regd [⟨0, ⟨some 19, .mov (.t 0), none⟩, false, [], []⟩,
    ⟨1, ⟨some 20, .nilc (.t 19), none⟩, false, [0], []⟩,
    ⟨2, ⟨some 21, .faddr 0 (.t 20), none⟩, false, [0, 1], []⟩,
    ⟨3, ⟨some 22, .load (some 9) (.t 21), none⟩, false, [0, 1, 2], []⟩,
    ⟨4, ⟨some 23, .mov (.t 0), none⟩, false, [], []⟩,
    ⟨5, ⟨some 24, .nilc (.t 23), none⟩, false, [4], []⟩,
    ⟨6, ⟨some 25, .faddr 9 (.t 24), none⟩, false, [4, 5], []⟩,
    ⟨7, ⟨some 26, .load none (.t 25), none⟩, false, [4, 5, 6], []⟩,
    ⟨8, ⟨some 27, .faddr 4 (.t 3), none⟩, false, [], []⟩,
    ⟨9, ⟨some 28, .load (some 5) (.t 27), none⟩, false, [8], []⟩,
    ⟨14, ⟨some 7, .alloc 0 (.agg [.int .i64 0, .str []]), none⟩, false, [], []⟩,
    ⟨10, ⟨some 29, .call (.c (.fn 63 [] [])) [.t 22, .t 26, .t 28], none⟩, true, .range 10, [14]⟩,
    ⟨11, ⟨some 18, .mov (.t 29), none⟩, false, .range 11, []⟩,
    ⟨12, ⟨some 30, .extract (.t 18) 0, none⟩, false, .range 12, []⟩,
    ⟨13, ⟨some 31, .extract (.t 18) 1, none⟩, false, .range 12, []⟩,
    ⟨15, ⟨none, .store (some 2) (.t 7) (.t 30), none⟩, true, (.range 13 ++ [14]), []⟩,
    ⟨16, ⟨some 8, .mov (.t 31), none⟩, false, .range 16, []⟩] ((.range 13 ++ [14, 15, 13, 16])) 32)
  (.seq (.seq (.reg [⟨some 32, .mov (.t 8), none⟩,
    ⟨some 33, .bini .neq (.t 32) (.c (.int .i64 0)), none⟩])
  (.cond (.t 33) (.seq (.reg [⟨some 34, .mov (.t 8), none⟩,
    ⟨some 4, .mov (.t 34), none⟩])
  (.ret)) (.skip)))
  (.cln [0, 3, 5, 7] (.seq (.reg [⟨some 35, .mov (.t 0), none⟩,
    ⟨some 36, .nilc (.t 35), none⟩,
    ⟨some 37, .faddr 9 (.t 36), none⟩,
    ⟨some 38, .load none (.t 37), none⟩,
    ⟨some 39, .mov (.t 5), none⟩,
    ⟨some 40, .call (.c (.fn 119 [] [])) [.t 38, .t 39], none⟩,
    ⟨some 9, .mov (.t 40), none⟩])
  (.seq (.seq (.reg [⟨some 41, .mov (.t 9), none⟩,
    ⟨some 42, .bini .geq (.t 41) (.c (.int .i64 0)), none⟩,
    ⟨some 43, .mov (.t 42), none⟩,
    ⟨some 44, .mov (.t 9), some (43, true)⟩,
    ⟨some 45, .mov (.t 0), some (43, true)⟩,
    ⟨some 46, .nilc (.t 45), some (43, true)⟩,
    ⟨some 47, .faddr 11 (.t 46), some (43, true)⟩,
    ⟨some 48, .load none (.t 47), some (43, true)⟩,
    ⟨some 49, .bini .lss (.t 44) (.t 48), some (43, true)⟩,
    ⟨some 50, .pick (.t 43) (.t 49) (.c (.bool false)), none⟩,
    ⟨some 51, .mov (.t 50), none⟩,
    ⟨some 52, .mov (.t 9), some (51, false)⟩,
    ⟨some 53, .bini .lss (.t 52) (.c (.int .i64 0)), some (51, false)⟩,
    ⟨some 54, .mov (.t 53), some (51, false)⟩,
    ⟨some 55, .mov (.t 0), some (54, true)⟩,
    ⟨some 56, .nilc (.t 55), some (54, true)⟩,
    ⟨some 57, .faddr 0 (.t 56), some (54, true)⟩,
    ⟨some 58, .faddr 2 (.t 57), some (54, true)⟩,
    ⟨some 59, .load none (.t 58), some (54, true)⟩,
    ⟨some 60, .mov (.t 5), some (54, true)⟩,
    ⟨some 61, .call (.c (.fn 119 [] [])) [.t 59, .t 60], some (54, true)⟩,
    ⟨some 62, .bini .geq (.t 61) (.c (.int .i64 0)), some (54, true)⟩,
    ⟨some 63, .mov (.t 62), some (54, true)⟩,
    ⟨some 64, .mov (.t 0), some (63, false)⟩,
    ⟨some 65, .nilc (.t 64), some (63, false)⟩,
    ⟨some 66, .faddr 0 (.t 65), some (63, false)⟩,
    ⟨some 67, .faddr 5 (.t 66), some (63, false)⟩,
    ⟨some 68, .load none (.t 67), some (63, false)⟩,
    ⟨some 69, .mov (.t 5), some (63, false)⟩,
    ⟨some 70, .call (.c (.fn 119 [] [])) [.t 68, .t 69], some (63, false)⟩,
    ⟨some 71, .bini .geq (.t 70) (.c (.int .i64 0)), some (63, false)⟩,
    ⟨some 72, .pick (.t 63) (.c (.bool true)) (.t 71), some (54, true)⟩,
    ⟨some 73, .pick (.t 54) (.t 72) (.c (.bool false)), some (51, false)⟩,
    ⟨some 74, .pick (.t 51) (.c (.bool true)) (.t 73), none⟩])
  (.cond (.t 74) (.seq (.reg [⟨some 4, .mov (.c (.int .i64 13)), none⟩])
  (.ret)) (.skip)))
  (.cln [0, 3, 7] (.seq (.reg [⟨some 75, .mov (.t 0), none⟩,
    ⟨some 76, .faddr 9 (.t 3), none⟩,
    ⟨some 77, .load (some 5) (.t 76), none⟩,
    ⟨some 78, .load (some 2) (.t 7), none⟩,
    ⟨some 79, .call (.c (.fn 120 [] [])) [.t 75, .t 77, .t 78], none⟩,
    ⟨some 4, .mov (.t 79), none⟩])
  (.ret))))))))))))) }
/-- (*frustum/types.body).statement$1 -/
def p122 : PFn := { nparams := 2, ntmps := 8, nobjs := 0, pure := false, keep := false, results := [⟨2, none⟩], body := (.cln (List.range 2) (.seq (.reg [⟨some 2, .mov (.c (.int .i64 0)), none⟩])
  (.seq (.regd [⟨0, ⟨some 3, .load none (.t 0), none⟩, false, [], []⟩,
    ⟨1, ⟨some 4, .faddr 9 (.t 1), none⟩, false, [], []⟩,
    ⟨2, ⟨some 5, .load (some 5) (.t 4), none⟩, false, [1], []⟩,
    ⟨3, ⟨some 6, .call (.c (.fn 123 [] [])) [.c (.int .i64 4)], none⟩, true, [], [0, 1, 2]⟩,
    ⟨4, ⟨some 7, .call (.c (.fn 120 [] [])) [.t 3, .t 5, .t 6], none⟩, true, [0, 1, 2, 3], []⟩,
    ⟨5, ⟨some 2, .mov (.t 7), none⟩, false, .range 5, []⟩] (.range 6) 8)
  (.ret)))) }
/-- (*frustum/types.body).statement$2 -/
def p124 : PFn := { nparams := 2, ntmps := 7, nobjs := 0, pure := false, keep := false, results := [⟨2, none⟩], body := (.cln (List.range 2) (.seq (.reg [⟨some 2, .mov (.c (.int .i64 0)), none⟩])
  (.seq (.reg [⟨some 3, .load none (.t 0), none⟩,
    ⟨some 4, .faddr 15 (.t 1), none⟩,
    ⟨some 5, .load none (.t 4), none⟩,
    ⟨some 6, .call (.c (.fn 62 [] [])) [.t 3, .t 5], none⟩,
    ⟨some 2, .mov (.t 6), none⟩])
  (.ret)))) }
/-- (*frustum/types.body).statement$3 -/
def p125 : PFn := { nparams := 2, ntmps := 7, nobjs := 0, pure := false, keep := false, results := [⟨2, none⟩], body := (.cln (List.range 2) (.seq (.reg [⟨some 2, .mov (.c (.int .i64 0)), none⟩])
  (.seq (.reg [⟨some 3, .load none (.t 0), none⟩,
    ⟨some 4, .faddr 16 (.t 1), none⟩,
    ⟨some 5, .load none (.t 4), none⟩,
    ⟨some 6, .call (.c (.fn 62 [] [])) [.t 3, .t 5], none⟩,
    ⟨some 2, .mov (.t 6), none⟩])
  (.ret)))) }
/-- (*frustum/types.body).loop$1 -/
def p162 : PFn := { nparams := 1, ntmps := 8, nobjs := 0, pure := false, keep := false, results := [], body := (.cln (List.range 1) (.reg [⟨some 1, .load none (.t 0), none⟩,
    ⟨some 2, .nilc (.t 1), none⟩,
    ⟨some 3, .faddr 13 (.t 2), none⟩,
    ⟨some 4, .load none (.t 3), none⟩,
    ⟨some 5, .bini .sub (.t 4) (.c (.int .i64 1)), none⟩,
    ⟨some 6, .nilc (.t 1), none⟩,
    ⟨some 7, .faddr 13 (.t 6), none⟩,
    ⟨none, .store none (.t 7) (.t 5), none⟩])) }
/-- (*frustum/types.body).loop -/
def p126 : PFn := { nparams := 2, ntmps := 38, nobjs := 1, pure := false, keep := false, results := [⟨4, none⟩], body := (.cln (List.range 2) (.seq (.reg [⟨some 2, .box 0 (.t 0), none⟩,
    ⟨some 3, .boxi (.t 1), none⟩,
    ⟨some 4, .mov (.c (.int .i64 0)), none⟩])
  (.seq (.block 0 (.seq (.reg [⟨some 6, .load none (.t 2), none⟩,
    ⟨some 7, .nilc (.t 6), none⟩,
    ⟨some 8, .faddr 12 (.t 7), none⟩,
    ⟨some 9, .load none (.t 8), none⟩,
    ⟨some 10, .notb (.t 9), none⟩,
    ⟨some 5, .mov (.t 10), none⟩])
  (.cond (.t 5) (.seq (.reg [⟨some 4, .mov (.c (.int .i64 10)), none⟩])
  (.ret)) (.seq (.reg [⟨some 12, .faddr 14 (.t 3), none⟩,
    ⟨some 13, .load none (.t 12), none⟩,
    ⟨some 14, .bini .lss (.t 13) (.c (.int .i64 1)), none⟩,
    ⟨some 15, .mov (.t 14), none⟩,
    ⟨some 16, .faddr 14 (.t 3), some (15, false)⟩,
    ⟨some 17, .load none (.t 16), some (15, false)⟩,
    ⟨some 18, .bini .gtr (.t 17) (.c (.int .i64 16)), some (15, false)⟩,
    ⟨some 19, .pick (.t 15) (.c (.bool true)) (.t 18), none⟩,
    ⟨some 11, .mov (.t 19), none⟩])
  (.cond (.t 11) (.seq (.reg [⟨some 4, .mov (.c (.int .i64 6)), none⟩])
  (.ret)) (.seq (.reg [⟨some 21, .load none (.t 2), none⟩,
    ⟨some 22, .nilc (.t 21), none⟩,
    ⟨some 23, .faddr 13 (.t 22), none⟩,
    ⟨some 24, .load none (.t 23), none⟩,
    ⟨some 25, .bini .geq (.t 24) (.c (.int .i64 3)), none⟩,
    ⟨some 20, .mov (.t 25), none⟩])
  (.cond (.t 20) (.seq (.reg [⟨some 4, .mov (.c (.int .i64 5)), none⟩])
  (.ret)) (.skip))))))))
  (.cln [2, 3] (.seq (.reg [⟨some 26, .load none (.t 2), none⟩,
    ⟨some 27, .nilc (.t 26), none⟩,
    ⟨some 28, .faddr 13 (.t 27), none⟩,
    ⟨some 29, .load none (.t 28), none⟩,
    ⟨some 30, .bini .add (.t 29) (.c (.int .i64 1)), none⟩,
    ⟨some 31, .nilc (.t 26), none⟩,
    ⟨some 32, .faddr 13 (.t 31), none⟩,
    ⟨none, .store none (.t 32) (.t 30), none⟩])
  (.seq (.reg [⟨some 33, .mkfn 162 [] [.t 2], none⟩,
    ⟨none, .defer (.t 33) [], none⟩])
  (.seq (.reg [⟨some 34, .load none (.t 2), none⟩,
    ⟨some 35, .faddr 15 (.t 3), none⟩,
    ⟨some 36, .load none (.t 35), none⟩,
    ⟨some 37, .call (.c (.fn 62 [] [])) [.t 34, .t 36], none⟩,
    ⟨some 4, .mov (.t 37), none⟩])
  (.ret)))))))) }
/-- (*frustum/types.body).statement -/
def p90 : PFn := { nparams := 2, ntmps := 126, nobjs := 3, pure := false, keep := false, results := [⟨4, none⟩], body := (.cln (List.range 2) (.seq (.reg [⟨some 2, .box 0 (.t 0), none⟩,
    ⟨some 3, .boxi (.t 1), none⟩,
    ⟨some 4, .mov (.c (.int .i64 0)), none⟩])
  (.seq (.seq (.reg [⟨some 6, .faddr 0 (.t 3), none⟩,
    ⟨some 7, .load none (.t 6), none⟩])
  (.block 0 (.seq (.reg [⟨some 9, .bini .eql (.t 7) (.c (.int .i64 1)), none⟩,
    ⟨some 8, .mov (.t 9), none⟩])
  (.cond (.t 8) (.seq (.block 1 (.seq (.regd [⟨0, ⟨some 11, .faddr 1 (.t 3), none⟩, false, [], []⟩,
    ⟨1, ⟨some 12, .load none (.t 11), none⟩, false, [0], []⟩,
    ⟨2, ⟨some 13, .call (.c (.fn 52 [] [])) [.t 12], none⟩, true, [0, 1], []⟩,
    ⟨3, ⟨some 14, .notb (.t 13), none⟩, false, [0, 1, 2], []⟩,
    ⟨4, ⟨some 15, .mov (.t 14), none⟩, false, [0, 1, 2, 3], []⟩,
    ⟨5, ⟨some 16, .load none (.t 2), some (15, false)⟩, false, .range 5, []⟩,
    ⟨6, ⟨some 17, .nilc (.t 16), some (15, false)⟩, false, .range 6, []⟩,
    ⟨7, ⟨some 18, .faddr 15 (.t 17), some (15, false)⟩, false, .range 7, []⟩,
    ⟨8, ⟨some 19, .load none (.t 18), some (15, false)⟩, false, .range 8, []⟩,
    ⟨9, ⟨some 20, .faddr 1 (.t 3), some (15, false)⟩, false, .range 5, []⟩,
    ⟨10, ⟨some 21, .load none (.t 20), some (15, false)⟩, false, (.range 5 ++ [9]), []⟩,
    ⟨11, ⟨some 22, .lookup true (.bool false) false (.t 19) (.t 21), some (15, false)⟩, false, .range 11, []⟩,
    ⟨12, ⟨some 23, .pick (.t 15) (.c (.bool true)) (.t 22), none⟩, false, .range 12, []⟩,
    ⟨13, ⟨some 24, .mov (.t 23), none⟩, false, .range 13, []⟩,
    ⟨14, ⟨some 25, .load none (.t 2), some (24, false)⟩, false, .range 14, []⟩,
    ⟨15, ⟨some 26, .nilc (.t 25), some (24, false)⟩, false, .range 15, []⟩,
    ⟨16, ⟨some 27, .faddr 9 (.t 26), some (24, false)⟩, false, .range 16, []⟩,
    ⟨17, ⟨some 28, .load none (.t 27), some (24, false)⟩, false, .range 17, []⟩,
    ⟨18, ⟨some 29, .faddr 1 (.t 3), some (24, false)⟩, false, .range 14, []⟩,
    ⟨19, ⟨some 30, .load none (.t 29), some (24, false)⟩, false, (.range 14 ++ [18]), []⟩,
    ⟨20, ⟨some 31, .call (.c (.fn 119 [] [])) [.t 28, .t 30], some (24, false)⟩, true, .range 20, []⟩,
    ⟨21, ⟨some 32, .bini .geq (.t 31) (.c (.int .i64 0)), some (24, false)⟩, false, .range 21, []⟩,
    ⟨22, ⟨some 33, .pick (.t 24) (.c (.bool true)) (.t 32), none⟩, false, .range 22, []⟩,
    ⟨23, ⟨some 10, .mov (.t 33), none⟩, false, .range 23, []⟩] (.range 24) 34)
  (.cond (.t 10) (.seq (.reg [⟨some 4, .mov (.c (.int .i64 13)), none⟩])
  (.ret)) (.seq (.regd [⟨0, ⟨some 35, .load none (.t 2), none⟩, false, [], []⟩,
    ⟨1, ⟨some 36, .nilc (.t 35), none⟩, false, [0], []⟩,
    ⟨2, ⟨some 37, .faddr 0 (.t 36), none⟩, false, [0, 1], []⟩,
    ⟨3, ⟨some 38, .faddr 1 (.t 37), none⟩, false, [0, 1, 2], []⟩,
    ⟨4, ⟨some 39, .load none (.t 38), none⟩, false, [0, 1, 2, 3], []⟩,
    ⟨5, ⟨some 40, .faddr 2 (.t 3), none⟩, false, [], []⟩,
    ⟨6, ⟨some 41, .load (some 2) (.t 40), none⟩, false, [5], []⟩,
    ⟨7, ⟨some 42, .call (.c (.fn 53 [] [])) [.t 39, .t 41], none⟩, true, .range 7, []⟩,
    ⟨8, ⟨some 43, .notb (.t 42), none⟩, false, .range 8, []⟩,
    ⟨9, ⟨some 34, .mov (.t 43), none⟩, false, .range 9, []⟩] (.range 10) 44)
  (.cond (.t 34) (.seq (.reg [⟨some 4, .mov (.c (.int .i64 12)), none⟩])
  (.ret)) (.skip))))))
  (.cln [2, 3] (.seq (.seq (.reg [⟨some 44, .load none (.t 2), none⟩,
    ⟨some 45, .faddr 9 (.t 3), none⟩,
    ⟨some 46, .load (some 5) (.t 45), none⟩,
    ⟨some 47, .faddr 2 (.t 3), none⟩,
    ⟨some 48, .load (some 2) (.t 47), none⟩,
    ⟨some 49, .call (.c (.fn 120 [] [])) [.t 44, .t 46, .t 48], none⟩,
    ⟨some 5, .mov (.t 49), none⟩])
  (.seq (.reg [⟨some 50, .mov (.t 5), none⟩,
    ⟨some 51, .bini .neq (.t 50) (.c (.int .i64 0)), none⟩])
  (.cond (.t 51) (.seq (.reg [⟨some 52, .mov (.t 5), none⟩,
    ⟨some 4, .mov (.t 52), none⟩])
  (.ret)) (.skip))))
  (.cln [2, 3] (.seq (.regd [⟨0, ⟨some 53, .load none (.t 2), none⟩, false, [], []⟩,
    ⟨1, ⟨some 54, .load none (.t 2), none⟩, false, [], []⟩,
    ⟨2, ⟨some 55, .nilc (.t 54), none⟩, false, [1], []⟩,
    ⟨3, ⟨some 56, .faddr 9 (.t 55), none⟩, false, [1, 2], []⟩,
    ⟨4, ⟨some 57, .load none (.t 56), none⟩, false, [1, 2, 3], []⟩,
    ⟨5, ⟨some 58, .faddr 1 (.t 3), none⟩, false, [], []⟩,
    ⟨6, ⟨some 59, .load none (.t 58), none⟩, false, [5], []⟩,
    ⟨7, ⟨some 60, .faddr 2 (.t 3), none⟩, false, [], []⟩,
    ⟨8, ⟨some 61, .load (some 2) (.t 60), none⟩, false, [7], []⟩,
    ⟨9, ⟨some 62, .build [.str [], .int .i64 0, .str []] [(0, 1, .t 59), (1, 2, .t 61)], none⟩, false, [5, 6, 7, 8], []⟩,
    ⟨10, ⟨some 63, .bsl [.agg [.str [], .int .i64 0, .str []]] [(0, .t 62)], none⟩, false, [5, 6, 7, 8, 9], []⟩,
    ⟨11, ⟨some 64, .append 1 true 3 40 (.t 57) (.t 63), none⟩, true, [1, 2, 3, 4, 5, 6, 7, 8, 9, 10], [0]⟩,
    ⟨12, ⟨some 65, .nilc (.t 53), none⟩, false, .range 12, []⟩,
    ⟨13, ⟨some 66, .faddr 9 (.t 65), none⟩, false, .range 13, []⟩,
    ⟨14, ⟨none, .store none (.t 66) (.t 64), none⟩, true, .range 14, []⟩] (.range 15) 67)
  (.seq (.reg [⟨some 4, .mov (.c (.int .i64 0)), none⟩])
  (.ret))))))) (.seq (.reg [⟨some 68, .bini .eql (.t 7) (.c (.int .i64 2)), none⟩,
    ⟨some 67, .mov (.t 68), none⟩])
  (.cond (.t 67) (.seq (.reg [⟨some 69, .load none (.t 2), none⟩,
    ⟨some 70, .load (some 17) (.t 3), none⟩,
    ⟨some 71, .call (.c (.fn 121 [] [])) [.t 69, .t 70], none⟩,
    ⟨some 4, .mov (.t 71), none⟩])
  (.ret)) (.seq (.reg [⟨some 73, .bini .eql (.t 7) (.c (.int .i64 3)), none⟩,
    ⟨some 72, .mov (.t 73), none⟩])
  (.cond (.t 72) (.seq (.reg [⟨some 74, .mkfn 122 [] [.t 2, .t 3], none⟩,
    ⟨some 75, .mkfn 124 [] [.t 2, .t 3], none⟩,
    ⟨some 76, .mkfn 125 [] [.t 2, .t 3], none⟩,
    ⟨some 77, .bslm 2 false 1 [.nilfn, .nilfn, .nilfn] [(0, .t 74), (1, .t 75), (2, .t 76)], none⟩,
    ⟨some 78, .call (.c (.fn 32 [] [])) [.t 77], none⟩,
    ⟨some 4, .mov (.t 78), none⟩])
  (.ret)) (.seq (.reg [⟨some 80, .bini .eql (.t 7) (.c (.int .i64 4)), none⟩,
    ⟨some 79, .mov (.t 80), none⟩])
  (.cond (.t 79) (.seq (.reg [⟨some 81, .load none (.t 2), none⟩,
    ⟨some 82, .load (some 17) (.t 3), none⟩,
    ⟨some 83, .call (.c (.fn 126 [] [])) [.t 81, .t 82], none⟩,
    ⟨some 4, .mov (.t 83), none⟩])
  (.ret)) (.seq (.seq (.reg [⟨some 85, .bini .eql (.t 7) (.c (.int .i64 5)), none⟩,
    ⟨some 84, .mov (.t 85), none⟩])
  (.cond (.t 84) (.skip) (.reg [⟨some 86, .bini .eql (.t 7) (.c (.int .i64 6)), none⟩,
    ⟨some 84, .mov (.t 86), none⟩])))
  (.cln [2, 7, 84] (.cond (.t 84) (.seq (.reg [⟨some 87, .load none (.t 2), none⟩,
    ⟨some 88, .nilc (.t 87), none⟩,
    ⟨some 89, .faddr 13 (.t 88), none⟩,
    ⟨some 90, .load none (.t 89), none⟩,
    ⟨some 91, .bini .eql (.t 90) (.c (.int .i64 0)), none⟩,
    ⟨some 92, .call (.c (.fn 40 [] [])) [.t 91, .c (.int .i64 10)], none⟩,
    ⟨some 4, .mov (.t 92), none⟩])
  (.ret)) (.seq (.reg [⟨some 94, .bini .eql (.t 7) (.c (.int .i64 7)), none⟩,
    ⟨some 93, .mov (.t 94), none⟩])
  (.cond (.t 93) (.seq (.reg [⟨some 95, .load none (.t 2), none⟩,
    ⟨some 96, .nilc (.t 95), none⟩,
    ⟨some 97, .faddr 12 (.t 96), none⟩,
    ⟨some 98, .load none (.t 97), none⟩,
    ⟨some 99, .notb (.t 98), none⟩,
    ⟨some 100, .mov (.t 99), none⟩,
    ⟨some 101, .load none (.t 2), some (100, false)⟩,
    ⟨some 102, .nilc (.t 101), some (100, false)⟩,
    ⟨some 103, .faddr 0 (.t 102), some (100, false)⟩,
    ⟨some 104, .faddr 0 (.t 103), some (100, false)⟩,
    ⟨some 105, .load none (.t 104), some (100, false)⟩,
    ⟨some 106, .bini .neq (.t 105) (.c (.int .i64 3)), some (100, false)⟩,
    ⟨some 107, .pick (.t 100) (.c (.bool true)) (.t 106), none⟩,
    ⟨some 108, .call (.c (.fn 40 [] [])) [.t 107, .c (.int .i64 10)], none⟩,
    ⟨some 4, .mov (.t 108), none⟩])
  (.ret)) (.seq (.seq (.reg [⟨some 110, .bini .eql (.t 7) (.c (.int .i64 8)), none⟩,
    ⟨some 109, .mov (.t 110), none⟩])
  (.cond (.t 109) (.skip) (.reg [⟨some 111, .bini .eql (.t 7) (.c (.int .i64 9)), none⟩,
    ⟨some 109, .mov (.t 111), none⟩])))
  (.cln [2, 109] (.cond (.t 109) (.seq (.reg [⟨some 112, .load none (.t 2), none⟩,
    ⟨some 113, .nilc (.t 112), none⟩,
    ⟨some 114, .faddr 12 (.t 113), none⟩,
    ⟨some 115, .load none (.t 114), none⟩,
    ⟨some 116, .notb (.t 115), none⟩,
    ⟨some 117, .mov (.t 116), none⟩,
    ⟨some 118, .load none (.t 2), some (117, false)⟩,
    ⟨some 119, .nilc (.t 118), some (117, false)⟩,
    ⟨some 120, .faddr 0 (.t 119), some (117, false)⟩,
    ⟨some 121, .faddr 0 (.t 120), some (117, false)⟩,
    ⟨some 122, .load none (.t 121), some (117, false)⟩,
    ⟨some 123, .bini .neq (.t 122) (.c (.int .i64 2)), some (117, false)⟩,
    ⟨some 124, .pick (.t 117) (.c (.bool true)) (.t 123), none⟩,
    ⟨some 125, .call (.c (.fn 40 [] [])) [.t 124, .c (.int .i64 10)], none⟩,
    ⟨some 4, .mov (.t 125), none⟩])
  (.ret)) (.skip)))))))))))))))))))
  (.cln [] (.seq (.reg [⟨some 4, .mov (.c (.int .i64 10)), none⟩])
  (.ret)))))) }
def p62l0 : PC := .loop (.cln [2, 22, 23, 24] (.seq (.reg [⟨some 25, .bini .lss (.t 24) (.t 23), none⟩])
  (.seq (.cond (.t 25) (.skip) (.exit 0))
  (.cln [2, 22, 23, 24] (.seq (.block 1 (.seq (.reg [⟨some 26, .iaddr 17 (.t 22) (.t 24), none⟩,
    ⟨some 27, .load (some 17) (.t 26), none⟩,
    ⟨some 7, .alloc 2 (.agg [.int .i64 0, .str [], .int .i64 0, .str [], .int .i64 0, .int .i64 0, .str [], .int .i64 0, .vs .nil [], .int .i64 0, .int .i64 0, .str [], .int .i64 0, .vs .nil [], .int .i64 0, .vs .nil [], .vs .nil []]), none⟩,
    ⟨none, .store (some 17) (.t 7) (.t 27), none⟩])
  (.seq (.reg [⟨some 28, .load none (.t 2), none⟩,
    ⟨some 29, .load (some 17) (.t 7), none⟩,
    ⟨some 30, .call (.c (.fn 90 [] [])) [.t 28, .t 29], none⟩,
    ⟨some 8, .mov (.t 30), none⟩])
  (.seq (.reg [⟨some 31, .mov (.t 8), none⟩,
    ⟨some 32, .bini .neq (.t 31) (.c (.int .i64 0)), none⟩])
  (.cond (.t 32) (.seq (.reg [⟨some 33, .mov (.t 8), none⟩,
    ⟨some 4, .mov (.t 33), none⟩])
  (.ret)) (.skip))))))
  (.cln [2, 22, 23, 24] (.reg [⟨some 34, .bini .add (.t 24) (.c (.int .i64 1)), none⟩,
    ⟨some 24, .mov (.t 34), none⟩])))))))
/-- (*frustum/types.body).block -/
def p62 : PFn := { nparams := 2, ntmps := 35, nobjs := 3, pure := false, keep := false, results := [⟨4, none⟩], body := (.cln (List.range 2) (.seq (.reg [⟨some 2, .box 0 (.t 0), none⟩,
    ⟨some 4, .mov (.c (.int .i64 0)), none⟩])
  (.seq (.reg [⟨some 9, .load none (.t 2), none⟩,
    ⟨some 10, .nilc (.t 9), none⟩,
    ⟨some 11, .faddr 9 (.t 10), none⟩,
    ⟨some 12, .load none (.t 11), none⟩,
    ⟨some 13, .lenl (.t 12), none⟩,
    ⟨some 5, .alloc 1 (.int .i64 0), none⟩,
    ⟨none, .store none (.t 5) (.t 13), none⟩])
  (.seq (.reg [⟨some 14, .load none (.t 2), none⟩,
    ⟨some 15, .nilc (.t 14), none⟩,
    ⟨some 16, .faddr 14 (.t 15), none⟩,
    ⟨some 17, .load none (.t 16), none⟩,
    ⟨some 18, .bini .add (.t 17) (.c (.int .i64 1)), none⟩,
    ⟨some 19, .nilc (.t 14), none⟩,
    ⟨some 20, .faddr 14 (.t 19), none⟩,
    ⟨none, .store none (.t 20) (.t 18), none⟩])
  (.seq (.reg [⟨some 21, .mkfn 89 [] [.t 2, .t 5], none⟩,
    ⟨none, .defer (.t 21) [], none⟩])
  (.seq (.seq (.reg [⟨some 22, .mov (.t 1), none⟩,
    ⟨some 23, .lenl (.t 22), none⟩,
    ⟨some 24, .mov (.c (.int .i64 0)), none⟩])
  (.block 0 (p62l0)))
  (.cln [] (.seq (.reg [⟨some 4, .mov (.c (.int .i64 0)), none⟩])
  (.ret))))))))) }
def p37l1 : PC := .loop (.cln [0, 3, 4, 6, 17, 18, 19, 37, 38, 39] (.seq (.reg [⟨some 40, .bini .lss (.t 39) (.t 38), none⟩])
  (.seq (.cond (.t 40) (.skip) (.exit 2))
  (.cln [0, 3, 4, 6, 17, 18, 19, 37, 38, 39] (.seq (.block 3 (.seq (.reg [⟨some 41, .iaddr 3 (.t 37) (.t 39), none⟩,
    ⟨some 42, .load (some 3) (.t 41), none⟩,
    ⟨some 8, .alloc 2 (.agg [.str [], .int .i64 0, .str []]), none⟩,
    ⟨none, .store (some 3) (.t 8) (.t 42), none⟩])
  (.seq (.seq (.regd [⟨0, ⟨some 43, .faddr 0 (.t 8), none⟩, false, [], []⟩,
    ⟨1, ⟨some 44, .load none (.t 43), none⟩, false, [0], []⟩,
    ⟨2, ⟨some 45, .call (.c (.fn 52 [] [])) [.t 44], none⟩, true, [0, 1], []⟩,
    ⟨3, ⟨some 46, .notb (.t 45), none⟩, false, [0, 1, 2], []⟩,
    ⟨4, ⟨some 47, .mov (.t 46), none⟩, false, [0, 1, 2, 3], []⟩,
    ⟨5, ⟨some 48, .mov (.t 0), some (47, false)⟩, false, .range 5, []⟩,
    ⟨6, ⟨some 49, .nilc (.t 48), some (47, false)⟩, false, .range 6, []⟩,
    ⟨7, ⟨some 50, .faddr 9 (.t 49), some (47, false)⟩, false, .range 7, []⟩,
    ⟨8, ⟨some 51, .load none (.t 50), some (47, false)⟩, false, .range 8, []⟩,
    ⟨9, ⟨some 52, .faddr 0 (.t 8), some (47, false)⟩, false, .range 5, []⟩,
    ⟨10, ⟨some 53, .load none (.t 52), some (47, false)⟩, false, (.range 5 ++ [9]), []⟩,
    ⟨11, ⟨some 54, .lookup true (.bool false) false (.t 51) (.t 53), some (47, false)⟩, false, .range 11, []⟩,
    ⟨12, ⟨some 55, .pick (.t 47) (.c (.bool true)) (.t 54), none⟩, false, .range 12, []⟩,
    ⟨13, ⟨some 56, .mov (.t 55), none⟩, false, .range 13, []⟩,
    ⟨14, ⟨some 57, .mov (.t 6), some (56, false)⟩, false, .range 14, []⟩,
    ⟨15, ⟨some 58, .faddr 0 (.t 8), some (56, false)⟩, false, .range 14, []⟩,
    ⟨16, ⟨some 59, .load none (.t 58), some (56, false)⟩, false, (.range 14 ++ [15]), []⟩,
    ⟨17, ⟨some 60, .lookup true (.bool false) false (.t 57) (.t 59), some (56, false)⟩, false, .range 17, []⟩,
    ⟨18, ⟨some 61, .pick (.t 56) (.c (.bool true)) (.t 60), none⟩, false, .range 18, []⟩] (.range 19) 62)
  (.cond (.t 61) (.seq (.reg [⟨some 2, .mov (.c (.int .i64 13)), none⟩])
  (.ret)) (.skip)))
  (.cln [0, 3, 4, 6, 8, 17, 18, 19, 37, 38, 39] (.seq (.seq (.regd [⟨0, ⟨some 62, .mov (.t 0), none⟩, false, [], []⟩,
    ⟨1, ⟨some 63, .nilc (.t 62), none⟩, false, [0], []⟩,
    ⟨2, ⟨some 64, .faddr 0 (.t 63), none⟩, false, [0, 1], []⟩,
    ⟨3, ⟨some 65, .faddr 1 (.t 64), none⟩, false, [0, 1, 2], []⟩,
    ⟨4, ⟨some 66, .load none (.t 65), none⟩, false, [0, 1, 2, 3], []⟩,
    ⟨5, ⟨some 67, .faddr 1 (.t 8), none⟩, false, [], []⟩,
    ⟨6, ⟨some 68, .load (some 2) (.t 67), none⟩, false, [5], []⟩,
    ⟨7, ⟨some 69, .call (.c (.fn 53 [] [])) [.t 66, .t 68], none⟩, true, .range 7, []⟩,
    ⟨8, ⟨some 70, .notb (.t 69), none⟩, false, .range 8, []⟩] (.range 9) 71)
  (.cond (.t 70) (.seq (.reg [⟨some 2, .mov (.c (.int .i64 12)), none⟩])
  (.ret)) (.skip)))
  (.cln [0, 3, 4, 6, 8, 17, 18, 19, 37, 38, 39] (.reg [⟨some 71, .mov (.t 6), none⟩,
    ⟨some 72, .faddr 0 (.t 8), none⟩,
    ⟨some 73, .load none (.t 72), none⟩,
    ⟨none, .mupd true (.t 71) (.t 73) (.c (.bool true)), none⟩])))))))
  (.cln [0, 3, 4, 6, 17, 18, 19, 37, 38, 39] (.reg [⟨some 74, .bini .add (.t 39) (.c (.int .i64 1)), none⟩,
    ⟨some 39, .mov (.t 74), none⟩])))))))
def p37l0 : PC := .loop (.cln [0, 17, 18, 19] (.seq (.reg [⟨some 20, .bini .lss (.t 19) (.t 18), none⟩])
  (.seq (.cond (.t 20) (.skip) (.exit 0))
  (.cln [0, 17, 18, 19] (.seq (.block 1 (.seq (.reg [⟨some 21, .mov (.t 19), none⟩,
    ⟨some 22, .iaddr 10 (.t 17) (.t 19), none⟩,
    ⟨some 23, .load (some 10) (.t 22), none⟩,
    ⟨some 4, .alloc 0 (.agg [.str [], .vs .nil [], .int .i64 0, .str [], .vs .nil [], .int .i64 0, .int .i64 0, .str [], .int .i64 0, .vs .nil []]), none⟩,
    ⟨some 3, .mov (.t 21), none⟩,
    ⟨none, .store (some 10) (.t 4) (.t 23), none⟩])
  (.seq (.seq (.reg [⟨some 24, .mov (.t 0), none⟩,
    ⟨some 25, .faddr 0 (.t 4), none⟩,
    ⟨some 26, .load none (.t 25), none⟩,
    ⟨some 27, .call (.c (.fn 51 [] [])) [.t 24, .t 26], none⟩,
    ⟨some 5, .mov (.t 27), none⟩])
  (.seq (.reg [⟨some 28, .mov (.t 5), none⟩,
    ⟨some 29, .bini .neq (.t 28) (.c (.int .i64 0)), none⟩])
  (.cond (.t 29) (.seq (.reg [⟨some 30, .mov (.t 5), none⟩,
    ⟨some 2, .mov (.t 30), none⟩])
  (.ret)) (.skip))))
  (.cln [0, 3, 4, 17, 18, 19] (.seq (.seq (.reg [⟨some 31, .faddr 1 (.t 4), none⟩,
    ⟨some 32, .load none (.t 31), none⟩,
    ⟨some 33, .lenl (.t 32), none⟩,
    ⟨some 34, .bini .gtr (.t 33) (.c (.int .i64 16)), none⟩])
  (.cond (.t 34) (.seq (.reg [⟨some 2, .mov (.c (.int .i64 11)), none⟩])
  (.ret)) (.skip)))
  (.cln [0, 3, 4, 17, 18, 19] (.seq (.reg [⟨some 35, .mkmap 1, none⟩,
    ⟨some 6, .mov (.t 35), none⟩])
  (.seq (.seq (.reg [⟨some 36, .faddr 1 (.t 4), none⟩,
    ⟨some 37, .load none (.t 36), none⟩,
    ⟨some 38, .lenl (.t 37), none⟩,
    ⟨some 39, .mov (.c (.int .i64 0)), none⟩])
  (.block 2 (p37l1)))
  (.cln [0, 3, 4, 17, 18, 19] (.seq (.seq (.regd [⟨0, ⟨some 75, .mov (.t 0), none⟩, false, [], []⟩,
    ⟨1, ⟨some 76, .nilc (.t 75), none⟩, false, [0], []⟩,
    ⟨2, ⟨some 77, .faddr 0 (.t 76), none⟩, false, [0, 1], []⟩,
    ⟨3, ⟨some 78, .faddr 1 (.t 77), none⟩, false, [0, 1, 2], []⟩,
    ⟨4, ⟨some 79, .load none (.t 78), none⟩, false, [0, 1, 2, 3], []⟩,
    ⟨5, ⟨some 80, .faddr 2 (.t 4), none⟩, false, [], []⟩,
    ⟨6, ⟨some 81, .load (some 2) (.t 80), none⟩, false, [5], []⟩,
    ⟨7, ⟨some 82, .call (.c (.fn 53 [] [])) [.t 79, .t 81], none⟩, true, .range 7, []⟩,
    ⟨8, ⟨some 83, .notb (.t 82), none⟩, false, .range 8, []⟩] (.range 9) 84)
  (.cond (.t 83) (.seq (.reg [⟨some 2, .mov (.c (.int .i64 12)), none⟩])
  (.ret)) (.skip)))
  (.cln [0, 3, 4, 17, 18, 19] (.seq (.regd [⟨0, ⟨some 84, .mov (.t 0), none⟩, false, [], []⟩,
    ⟨1, ⟨some 85, .nilc (.t 84), none⟩, false, [0], []⟩,
    ⟨2, ⟨some 86, .faddr 0 (.t 85), none⟩, false, [0, 1], []⟩,
    ⟨3, ⟨some 87, .load (some 9) (.t 86), none⟩, false, [0, 1, 2], []⟩,
    ⟨4, ⟨some 88, .mov (.t 3), none⟩, false, [], []⟩,
    ⟨6, ⟨some 90, .faddr 1 (.t 4), none⟩, false, [], []⟩,
    ⟨7, ⟨some 91, .load none (.t 90), none⟩, false, [6], []⟩,
    ⟨5, ⟨some 89, .call (.c (.fn 61 [] [])) [.t 87, .t 88], none⟩, true, .range 5, [6, 7]⟩,
    ⟨8, ⟨some 92, .call (.c (.fn 60 [] [])) [.t 89, .t 91, .c (.bool false)], none⟩, true, .range 8, []⟩,
    ⟨9, ⟨some 9, .mov (.t 92), none⟩, false, .range 9, []⟩] (.range 10) 93)
  (.seq (.seq (.reg [⟨some 93, .mov (.t 9), none⟩,
    ⟨some 94, .faddr 4 (.t 4), none⟩,
    ⟨some 95, .load none (.t 94), none⟩,
    ⟨some 96, .call (.c (.fn 62 [] [])) [.t 93, .t 95], none⟩,
    ⟨some 10, .mov (.t 96), none⟩])
  (.seq (.reg [⟨some 97, .mov (.t 10), none⟩,
    ⟨some 98, .bini .neq (.t 97) (.c (.int .i64 0)), none⟩])
  (.cond (.t 98) (.seq (.reg [⟨some 99, .mov (.t 10), none⟩,
    ⟨some 2, .mov (.t 99), none⟩])
  (.ret)) (.skip))))
  (.cln [0, 4, 9, 17, 18, 19] (.seq (.regd [⟨0, ⟨some 100, .mov (.t 9), none⟩, false, [], []⟩,
    ⟨1, ⟨some 101, .mov (.t 9), none⟩, false, [], []⟩,
    ⟨2, ⟨some 102, .nilc (.t 101), none⟩, false, [1], []⟩,
    ⟨3, ⟨some 103, .faddr 9 (.t 102), none⟩, false, [1, 2], []⟩,
    ⟨4, ⟨some 104, .load none (.t 103), none⟩, false, [1, 2, 3], []⟩,
    ⟨5, ⟨some 105, .mov (.t 9), none⟩, false, [], []⟩,
    ⟨6, ⟨some 106, .nilc (.t 105), none⟩, false, [5], []⟩,
    ⟨7, ⟨some 107, .faddr 10 (.t 106), none⟩, false, [5, 6], []⟩,
    ⟨8, ⟨some 108, .load none (.t 107), none⟩, false, [5, 6, 7], []⟩,
    ⟨9, ⟨some 109, .append 3 true 3 40 (.t 104) (.t 108), none⟩, true, [1, 2, 3, 4, 5, 6, 7, 8], []⟩,
    ⟨10, ⟨some 110, .nilc (.t 100), none⟩, false, .range 10, []⟩,
    ⟨11, ⟨some 111, .faddr 9 (.t 110), none⟩, false, .range 11, []⟩,
    ⟨12, ⟨none, .store none (.t 111) (.t 109), none⟩, true, .range 12, []⟩] (.range 13) 112)
  (.seq (.regd [⟨0, ⟨some 113, .mov (.t 9), none⟩, false, [], []⟩,
    ⟨1, ⟨some 114, .nilc (.t 113), none⟩, false, [0], []⟩,
    ⟨2, ⟨some 115, .faddr 0 (.t 114), none⟩, false, [0, 1], []⟩,
    ⟨3, ⟨some 116, .load (some 9) (.t 115), none⟩, false, [0, 1, 2], []⟩,
    ⟨4, ⟨some 117, .mov (.t 9), none⟩, false, [], []⟩,
    ⟨5, ⟨some 118, .nilc (.t 117), none⟩, false, [4], []⟩,
    ⟨6, ⟨some 119, .faddr 9 (.t 118), none⟩, false, [4, 5], []⟩,
    ⟨7, ⟨some 120, .load none (.t 119), none⟩, false, [4, 5, 6], []⟩,
    ⟨8, ⟨some 121, .faddr 5 (.t 4), none⟩, false, [], []⟩,
    ⟨9, ⟨some 122, .load (some 5) (.t 121), none⟩, false, [8], []⟩,
    ⟨14, ⟨some 11, .alloc 4 (.agg [.int .i64 0, .str []]), none⟩, false, [], []⟩,
    ⟨10, ⟨some 123, .call (.c (.fn 63 [] [])) [.t 116, .t 120, .t 122], none⟩, true, .range 10, [14]⟩,
    ⟨11, ⟨some 112, .mov (.t 123), none⟩, false, .range 11, []⟩,
    ⟨12, ⟨some 124, .extract (.t 112) 0, none⟩, false, .range 12, []⟩,
    ⟨13, ⟨some 125, .extract (.t 112) 1, none⟩, false, .range 12, []⟩,
    ⟨15, ⟨none, .store (some 2) (.t 11) (.t 124), none⟩, true, (.range 13 ++ [14]), []⟩,
    ⟨16, ⟨some 12, .mov (.t 125), none⟩, false, .range 16, []⟩] ((.range 13 ++ [14, 15, 13, 16])) 126)
  (.seq (.seq (.reg [⟨some 126, .mov (.t 12), none⟩,
    ⟨some 127, .bini .neq (.t 126) (.c (.int .i64 0)), none⟩])
  (.cond (.t 127) (.seq (.reg [⟨some 128, .mov (.t 12), none⟩,
    ⟨some 2, .mov (.t 128), none⟩])
  (.ret)) (.skip)))
  (.cln [0, 4, 11, 17, 18, 19] (.seq (.reg [⟨some 129, .load (some 2) (.t 11), none⟩,
    ⟨some 130, .faddr 2 (.t 4), none⟩,
    ⟨some 131, .load (some 2) (.t 130), none⟩,
    ⟨some 132, .eq true (.parts [(0, 1, .ei), (1, 1, .es)]) (.t 129) (.t 131), none⟩])
  (.cond (.t 132) (.seq (.reg [⟨some 2, .mov (.c (.int .i64 12)), none⟩])
  (.ret)) (.skip)))))))))))))))))))))
  (.cln [0, 17, 18, 19] (.reg [⟨some 133, .bini .add (.t 19) (.c (.int .i64 1)), none⟩,
    ⟨some 19, .mov (.t 133), none⟩])))))))
/-- (*frustum/types.checker).functions -/
def p37 : PFn := { nparams := 1, ntmps := 134, nobjs := 5, pure := false, keep := false, results := [⟨2, none⟩], body := (.cln (List.range 1) (.seq (.reg [⟨some 2, .mov (.c (.int .i64 0)), none⟩])
  (.seq (.seq (.reg [⟨some 13, .mov (.t 0), none⟩,
    ⟨some 14, .nilc (.t 13), none⟩,
    ⟨some 15, .faddr 0 (.t 14), none⟩,
    ⟨some 16, .faddr 7 (.t 15), none⟩,
    ⟨some 17, .load none (.t 16), none⟩,
    ⟨some 18, .lenl (.t 17), none⟩,
    ⟨some 19, .mov (.c (.int .i64 0)), none⟩])
  (.block 0 (p37l0)))
  (.cln [] (.seq (.reg [⟨some 2, .mov (.c (.int .i64 0)), none⟩])
  (.ret)))))) }
/-- (*frustum/types.checker).main -/
def p38 : PFn := { nparams := 1, ntmps := 14, nobjs := 0, pure := false, keep := false, results := [⟨2, none⟩], body := (.cln (List.range 1) (.seq (.reg [⟨some 2, .mov (.c (.int .i64 0)), none⟩])
  (.seq (.regd [⟨0, ⟨some 3, .mov (.t 0), none⟩, false, [], []⟩,
    ⟨1, ⟨some 4, .nilc (.t 3), none⟩, false, [0], []⟩,
    ⟨2, ⟨some 5, .faddr 0 (.t 4), none⟩, false, [0, 1], []⟩,
    ⟨3, ⟨some 6, .load (some 9) (.t 5), none⟩, false, [0, 1, 2], []⟩,
    ⟨5, ⟨some 8, .mov (.t 0), none⟩, false, [], []⟩,
    ⟨6, ⟨some 9, .nilc (.t 8), none⟩, false, [5], []⟩,
    ⟨7, ⟨some 10, .faddr 0 (.t 9), none⟩, false, [5, 6], []⟩,
    ⟨8, ⟨some 11, .faddr 8 (.t 10), none⟩, false, [5, 6, 7], []⟩,
    ⟨9, ⟨some 12, .load none (.t 11), none⟩, false, [5, 6, 7, 8], []⟩,
    ⟨4, ⟨some 7, .call (.c (.fn 60 [] [])) [.t 6, .c (.vs .nil []), .c (.bool true)], none⟩, true, [0, 1, 2, 3], [6, 7, 8, 9]⟩,
    ⟨10, ⟨some 13, .call (.c (.fn 62 [] [])) [.t 7, .t 12], none⟩, true, .range 10, []⟩,
    ⟨11, ⟨some 2, .mov (.t 13), none⟩, false, .range 11, []⟩] (.range 12) 14)
  (.ret)))) }
/-- (*frustum/types.weigher).add -/
def p94 : PFn := { nparams := 2, ntmps := 14, nobjs := 0, pure := false, keep := false, results := [], body := (.cln (List.range 2) (.reg [⟨some 4, .mov (.t 0), none⟩,
    ⟨some 5, .mov (.t 0), none⟩,
    ⟨some 6, .nilc (.t 5), none⟩,
    ⟨some 7, .faddr 1 (.t 6), none⟩,
    ⟨some 8, .load none (.t 7), none⟩,
    ⟨some 9, .mov (.t 1), none⟩,
    ⟨some 10, .bini .add (.t 8) (.t 9), none⟩,
    ⟨some 11, .mn (.c (.int .i64 1000000)) [.t 10], none⟩,
    ⟨some 12, .nilc (.t 4), none⟩,
    ⟨some 13, .faddr 1 (.t 12), none⟩,
    ⟨none, .store none (.t 13) (.t 11), none⟩])) }
def p95l0 : PC := .loop (.cln [0, 2, 5, 10, 104, 105, 106] (.seq (.reg [⟨some 107, .bini .lss (.t 106) (.t 105), none⟩])
  (.seq (.cond (.t 107) (.skip) (.exit 1))
  (.cln [0, 2, 5, 10, 104, 105, 106] (.seq (.block 2 (.seq (.reg [⟨some 108, .iaddr 5 (.t 104) (.t 106), none⟩,
    ⟨some 109, .load (some 5) (.t 108), none⟩,
    ⟨some 13, .alloc 1 (.agg [.int .i64 0, .int .i64 0, .str [], .int .i64 0, .vs .nil []]), none⟩,
    ⟨none, .store (some 5) (.t 13) (.t 109), none⟩])
  (.reg [⟨some 110, .mov (.t 0), none⟩,
    ⟨some 111, .load (some 9) (.t 5), none⟩,
    ⟨some 112, .mov (.t 2), none⟩,
    ⟨some 113, .load (some 5) (.t 13), none⟩,
    ⟨some 114, .call (.c (.fn 95 [] [])) [.t 110, .t 111, .t 112, .t 113], none⟩])))
  (.cln [0, 2, 5, 10, 104, 105, 106] (.reg [⟨some 115, .bini .add (.t 106) (.c (.int .i64 1)), none⟩,
    ⟨some 106, .mov (.t 115), none⟩])))))))
def p95l1 : PC := .loop (.cln [0, 5, 155, 156, 157] (.seq (.reg [⟨some 158, .bini .lss (.t 157) (.t 156), none⟩])
  (.seq (.cond (.t 158) (.skip) (.exit 3))
  (.cln [0, 5, 155, 156, 157] (.seq (.block 4 (.seq (.reg [⟨some 159, .iaddr 3 (.t 155) (.t 157), none⟩,
    ⟨some 160, .load (some 3) (.t 159), none⟩,
    ⟨some 18, .alloc 4 (.agg [.str [], .int .i64 0, .str []]), none⟩,
    ⟨none, .store (some 3) (.t 18) (.t 160), none⟩])
  (.reg [⟨some 161, .mov (.t 0), none⟩,
    ⟨some 162, .load (some 9) (.t 5), none⟩,
    ⟨some 163, .faddr 1 (.t 18), none⟩,
    ⟨some 164, .load (some 2) (.t 163), none⟩,
    ⟨some 165, .call (.c (.fn 30 [] [])) [.t 162, .t 164], none⟩,
    ⟨some 166, .call (.c (.fn 94 [] [])) [.t 161, .t 165], none⟩])))
  (.cln [0, 5, 155, 156, 157] (.reg [⟨some 167, .bini .add (.t 157) (.c (.int .i64 1)), none⟩,
    ⟨some 157, .mov (.t 167), none⟩])))))))
/-- (*frustum/types.weigher).expr -/
def p95 : PFn := { nparams := 4, ntmps := 168, nobjs := 5, pure := false, keep := false, results := [], body := (.cln (List.range 4) (.seq (.reg [⟨some 5, .boxi (.t 1), none⟩,
    ⟨some 7, .boxi (.t 3), none⟩])
  (.seq (.seq (.reg [⟨some 19, .mov (.t 0), none⟩,
    ⟨some 20, .nilc (.t 19), none⟩,
    ⟨some 21, .faddr 1 (.t 20), none⟩,
    ⟨some 22, .load none (.t 21), none⟩,
    ⟨some 23, .bini .geq (.t 22) (.c (.int .i64 1000000)), none⟩])
  (.cond (.t 23) (.ret) (.skip)))
  (.cln [0, 2, 5, 7] (.seq (.reg [⟨some 25, .load (some 9) (.t 5), none⟩,
    ⟨some 26, .mov (.t 2), none⟩,
    ⟨some 27, .load (some 5) (.t 7), none⟩,
    ⟨some 28, .call (.c (.fn 63 [] [])) [.t 25, .t 26, .t 27], none⟩,
    ⟨some 24, .mov (.t 28), none⟩,
    ⟨some 29, .extract (.t 24) 0, none⟩,
    ⟨some 30, .extract (.t 24) 1, none⟩,
    ⟨some 8, .alloc 0 (.agg [.int .i64 0, .str []]), none⟩,
    ⟨none, .store (some 2) (.t 8) (.t 29), none⟩,
    ⟨some 9, .mov (.t 30), none⟩])
  (.seq (.reg [⟨some 10, .mov (.c (.int .i64 (-1))), none⟩])
  (.seq (.seq (.reg [⟨some 31, .mov (.t 9), none⟩,
    ⟨some 32, .bini .eql (.t 31) (.c (.int .i64 0)), none⟩,
    ⟨some 33, .mov (.t 32), none⟩,
    ⟨some 34, .faddr 0 (.t 7), some (33, true)⟩,
    ⟨some 35, .load none (.t 34), some (33, true)⟩,
    ⟨some 36, .bini .eql (.t 35) (.c (.int .i64 7)), some (33, true)⟩,
    ⟨some 37, .pick (.t 33) (.t 36) (.c (.bool false)), none⟩,
    ⟨some 38, .mov (.t 37), none⟩,
    ⟨some 39, .faddr 2 (.t 7), some (38, true)⟩,
    ⟨some 40, .load none (.t 39), some (38, true)⟩,
    ⟨some 41, .call (.c (.fn 133 [] [])) [.t 40], some (38, true)⟩,
    ⟨some 42, .bini .eql (.t 41) (.c (.int .i64 0)), some (38, true)⟩,
    ⟨some 43, .pick (.t 38) (.t 42) (.c (.bool false)), none⟩,
    ⟨some 44, .mov (.t 43), none⟩,
    ⟨some 45, .load (some 9) (.t 5), some (44, true)⟩,
    ⟨some 46, .faddr 2 (.t 7), some (44, true)⟩,
    ⟨some 47, .load none (.t 46), some (44, true)⟩,
    ⟨some 48, .call (.c (.fn 46 [] [])) [.t 45, .t 47], some (44, true)⟩,
    ⟨some 49, .bini .lss (.t 48) (.c (.int .i64 0)), some (44, true)⟩,
    ⟨some 50, .pick (.t 44) (.t 49) (.c (.bool false)), none⟩,
    ⟨some 51, .mov (.t 50), none⟩,
    ⟨some 52, .faddr 2 (.t 7), some (51, true)⟩,
    ⟨some 53, .load none (.t 52), some (51, true)⟩,
    ⟨some 54, .call (.c (.fn 86 [] [])) [.t 53], some (51, true)⟩,
    ⟨some 55, .notb (.t 54), some (51, true)⟩,
    ⟨some 56, .pick (.t 51) (.t 55) (.c (.bool false)), none⟩])
  (.cond (.t 56) (.reg [⟨some 57, .load (some 9) (.t 5), none⟩,
    ⟨some 58, .faddr 2 (.t 7), none⟩,
    ⟨some 59, .load none (.t 58), none⟩,
    ⟨some 60, .call (.c (.fn 134 [] [])) [.t 57, .t 59], none⟩,
    ⟨some 10, .mov (.t 60), none⟩]) (.skip)))
  (.cln [0, 2, 5, 7, 8, 9, 10] (.seq (.seq (.regd [⟨0, ⟨some 61, .mov (.t 10), none⟩, false, [], []⟩,
    ⟨1, ⟨some 62, .bini .geq (.t 61) (.c (.int .i64 0)), none⟩, false, [0], []⟩,
    ⟨2, ⟨some 63, .mov (.t 62), none⟩, false, [0, 1], []⟩,
    ⟨3, ⟨some 64, .mov (.t 0), some (63, true)⟩, false, [0, 1, 2], []⟩,
    ⟨4, ⟨some 65, .nilc (.t 64), some (63, true)⟩, false, [0, 1, 2, 3], []⟩,
    ⟨5, ⟨some 66, .faddr 2 (.t 65), some (63, true)⟩, false, .range 5, []⟩,
    ⟨6, ⟨some 67, .load none (.t 66), some (63, true)⟩, false, .range 6, []⟩,
    ⟨7, ⟨some 68, .mov (.t 0), some (63, true)⟩, false, [0, 1, 2], []⟩,
    ⟨8, ⟨some 69, .nilc (.t 68), some (63, true)⟩, false, [0, 1, 2, 7], []⟩,
    ⟨9, ⟨some 70, .faddr 0 (.t 69), some (63, true)⟩, false, [0, 1, 2, 7, 8], []⟩,
    ⟨10, ⟨some 71, .load none (.t 70), some (63, true)⟩, false, [0, 1, 2, 7, 8, 9], []⟩,
    ⟨11, ⟨some 72, .bini .gtr (.t 67) (.t 71), some (63, true)⟩, false, .range 11, []⟩,
    ⟨12, ⟨some 73, .pick (.t 63) (.t 72) (.c (.bool false)), none⟩, false, .range 12, []⟩] (.range 13) 74)
  (.cond (.t 73) (.seq (.reg [⟨some 74, .mov (.t 0), none⟩,
    ⟨some 75, .call (.c (.fn 94 [] [])) [.t 74, .c (.int .i64 1)], none⟩])
  (.ret)) (.skip)))
  (.cln [0, 2, 5, 7, 8, 9, 10] (.seq (.block 0 (.seq (.reg [⟨some 83, .mov (.t 9), none⟩,
    ⟨some 84, .bini .neq (.t 83) (.c (.int .i64 0)), none⟩,
    ⟨some 82, .mov (.t 84), none⟩])
  (.cond (.t 82) (.reg [⟨some 85, .mov (.t 0), none⟩,
    ⟨some 86, .call (.c (.fn 94 [] [])) [.t 85, .c (.int .i64 1)], none⟩]) (.seq (.reg [⟨some 88, .faddr 0 (.t 7), none⟩,
    ⟨some 89, .load none (.t 88), none⟩,
    ⟨some 90, .bini .eql (.t 89) (.c (.int .i64 9)), none⟩,
    ⟨some 87, .mov (.t 90), none⟩])
  (.cond (.t 87) (.reg [⟨some 91, .mov (.t 0), none⟩,
    ⟨some 92, .call (.c (.fn 94 [] [])) [.t 91, .c (.int .i64 4)], none⟩]) (.reg [⟨some 76, .mov (.t 0), none⟩,
    ⟨some 77, .load (some 9) (.t 5), none⟩,
    ⟨some 78, .load (some 2) (.t 8), none⟩,
    ⟨some 79, .call (.c (.fn 30 [] [])) [.t 77, .t 78], none⟩,
    ⟨some 80, .mx (.c (.int .i64 1)) [.t 79], none⟩,
    ⟨some 81, .call (.c (.fn 94 [] [])) [.t 76, .t 80], none⟩]))))))
  (.cln [0, 2, 5, 7, 9, 10] (.seq (.reg [⟨some 93, .faddr 4 (.t 7), none⟩,
    ⟨some 94, .load none (.t 93), none⟩,
    ⟨some 11, .mov (.t 94), none⟩])
  (.seq (.seq (.reg [⟨some 95, .mov (.t 9), none⟩,
    ⟨some 96, .bini .eql (.t 95) (.c (.int .i64 0)), none⟩,
    ⟨some 97, .mov (.t 96), none⟩,
    ⟨some 98, .load (some 9) (.t 5), some (97, true)⟩,
    ⟨some 99, .load (some 5) (.t 7), some (97, true)⟩,
    ⟨some 100, .call (.c (.fn 92 [] [])) [.t 98, .t 99], some (97, true)⟩,
    ⟨some 101, .pick (.t 97) (.t 100) (.c (.bool false)), none⟩])
  (.cond (.t 101) (.reg [⟨some 102, .mov (.t 11), none⟩,
    ⟨some 103, .slc 5 (.t 102) (some (.c (.int .i64 1))) none none, none⟩,
    ⟨some 11, .mov (.t 103), none⟩]) (.skip)))
  (.cln [0, 2, 5, 10, 11] (.seq (.seq (.reg [⟨some 104, .mov (.t 11), none⟩,
    ⟨some 105, .lenl (.t 104), none⟩,
    ⟨some 106, .mov (.c (.int .i64 0)), none⟩])
  (.block 1 (p95l0)))
  (.cln [0, 5, 10] (.seq (.seq (.reg [⟨some 116, .mov (.t 10), none⟩,
    ⟨some 117, .bini .lss (.t 116) (.c (.int .i64 0)), none⟩])
  (.cond (.t 117) (.ret) (.skip)))
  (.cln [0, 5, 10] (.seq (.reg [⟨some 118, .faddr 7 (.t 5), none⟩,
    ⟨some 119, .load none (.t 118), none⟩,
    ⟨some 120, .mov (.t 10), none⟩,
    ⟨some 121, .iaddr 10 (.t 119) (.t 120), none⟩,
    ⟨some 122, .load (some 10) (.t 121), none⟩,
    ⟨some 14, .alloc 2 (.agg [.str [], .vs .nil [], .int .i64 0, .str [], .vs .nil [], .int .i64 0, .int .i64 0, .str [], .int .i64 0, .vs .nil []]), none⟩,
    ⟨none, .store (some 10) (.t 14) (.t 122), none⟩])
  (.seq (.reg [⟨some 123, .mov (.t 0), none⟩,
    ⟨some 124, .nilc (.t 123), none⟩,
    ⟨some 125, .faddr 2 (.t 124), none⟩,
    ⟨some 126, .load none (.t 125), none⟩,
    ⟨some 127, .bini .add (.t 126) (.c (.int .i64 1)), none⟩,
    ⟨some 128, .nilc (.t 123), none⟩,
    ⟨some 129, .faddr 2 (.t 128), none⟩,
    ⟨none, .store none (.t 129) (.t 127), none⟩])
  (.seq (.reg [⟨some 130, .load (some 9) (.t 5), none⟩,
    ⟨some 131, .mov (.t 10), none⟩,
    ⟨some 132, .call (.c (.fn 61 [] [])) [.t 130, .t 131], none⟩,
    ⟨some 15, .alloc 3 (.agg [.int .i64 0, .vs .nil [], .vs .nil [], .vs .nil [], .vs .nil [], .vs .nil [], .vs .nil [], .vs .nil [], .vs .nil []]), none⟩,
    ⟨none, .store (some 9) (.t 15) (.t 132), none⟩])
  (.seq (.regd [⟨0, ⟨some 133, .mov (.t 0), none⟩, false, [], []⟩,
    ⟨1, ⟨some 134, .load (some 9) (.t 15), none⟩, false, [], []⟩,
    ⟨2, ⟨some 135, .faddr 1 (.t 14), none⟩, false, [], []⟩,
    ⟨3, ⟨some 136, .load none (.t 135), none⟩, false, [2], []⟩,
    ⟨5, ⟨some 138, .faddr 4 (.t 14), none⟩, false, [], []⟩,
    ⟨6, ⟨some 139, .load none (.t 138), none⟩, false, [5], []⟩,
    ⟨4, ⟨some 137, .call (.c (.fn 87 [] [])) [.t 136], none⟩, true, [2, 3], [1, 5, 6]⟩,
    ⟨7, ⟨some 140, .call (.c (.fn 64 [] [])) [.t 133, .t 134, .t 137, .t 139], none⟩, true, .range 7, []⟩,
    ⟨8, ⟨some 16, .mov (.t 140), none⟩, false, .range 8, []⟩] (.range 9) 141)
  (.seq (.reg [⟨some 141, .mov (.t 0), none⟩,
    ⟨some 142, .load (some 9) (.t 15), none⟩,
    ⟨some 143, .mov (.t 16), none⟩,
    ⟨some 144, .faddr 5 (.t 14), none⟩,
    ⟨some 145, .load (some 5) (.t 144), none⟩,
    ⟨some 146, .call (.c (.fn 95 [] [])) [.t 141, .t 142, .t 143, .t 145], none⟩])
  (.seq (.reg [⟨some 147, .mov (.t 0), none⟩,
    ⟨some 148, .nilc (.t 147), none⟩,
    ⟨some 149, .faddr 2 (.t 148), none⟩,
    ⟨some 150, .load none (.t 149), none⟩,
    ⟨some 151, .bini .sub (.t 150) (.c (.int .i64 1)), none⟩,
    ⟨some 152, .nilc (.t 147), none⟩,
    ⟨some 153, .faddr 2 (.t 152), none⟩,
    ⟨none, .store none (.t 153) (.t 151), none⟩])
  (.seq (.reg [⟨some 154, .faddr 1 (.t 14), none⟩,
    ⟨some 155, .load none (.t 154), none⟩,
    ⟨some 156, .lenl (.t 155), none⟩,
    ⟨some 157, .mov (.c (.int .i64 0)), none⟩])
  (.block 3 (p95l1)))))))))))))))))))))))))))) }
/-- slices.Clip[[]frustum/api.Field,frustum/api.Field] -/
def p96 : PFn := { nparams := 1, ntmps := 9, nobjs := 0, pure := true, keep := false, results := [⟨2, none⟩], body := (.cln (List.range 1) (.seq (.reg [⟨some 2, .mov (.c (.vs .nil [])), none⟩])
  (.seq (.reg [⟨some 3, .mov (.t 0), none⟩,
    ⟨some 4, .mov (.t 0), none⟩,
    ⟨some 5, .lenl (.t 4), none⟩,
    ⟨some 6, .mov (.t 0), none⟩,
    ⟨some 7, .lenl (.t 6), none⟩,
    ⟨some 8, .slc 3 (.t 3) none (some (.t 5)) (some (.t 7)), none⟩,
    ⟨some 2, .mov (.t 8), none⟩])
  (.ret)))) }
def p64l0 : PC := .loop (.cln [0, 2, 5, 13, 14, 15] (.seq (.reg [⟨some 16, .bini .lss (.t 15) (.t 14), none⟩])
  (.seq (.cond (.t 16) (.skip) (.exit 0))
  (.cln [0, 2, 5, 13, 14, 15] (.seq (.block 1 (.seq (.reg [⟨some 17, .iaddr 17 (.t 13) (.t 15), none⟩,
    ⟨some 18, .load (some 17) (.t 17), none⟩,
    ⟨some 10, .alloc 0 (.agg [.int .i64 0, .str [], .int .i64 0, .str [], .int .i64 0, .int .i64 0, .str [], .int .i64 0, .vs .nil [], .int .i64 0, .int .i64 0, .str [], .int .i64 0, .vs .nil [], .int .i64 0, .vs .nil [], .vs .nil []]), none⟩,
    ⟨none, .store (some 17) (.t 10) (.t 18), none⟩])
  (.seq (.seq (.reg [⟨some 19, .mov (.t 0), none⟩,
    ⟨some 20, .nilc (.t 19), none⟩,
    ⟨some 21, .faddr 1 (.t 20), none⟩,
    ⟨some 22, .load none (.t 21), none⟩,
    ⟨some 23, .bini .geq (.t 22) (.c (.int .i64 1000000)), none⟩])
  (.cond (.t 23) (.exit 0) (.skip)))
  (.cln [0, 2, 5, 10, 13, 14, 15] (.seq (.reg [⟨some 24, .faddr 0 (.t 10), none⟩,
    ⟨some 25, .load none (.t 24), none⟩])
  (.block 2 (.seq (.seq (.reg [⟨some 41, .bini .eql (.t 25) (.c (.int .i64 1)), none⟩,
    ⟨some 40, .mov (.t 41), none⟩])
  (.cond (.t 40) (.skip) (.reg [⟨some 42, .bini .eql (.t 25) (.c (.int .i64 2)), none⟩,
    ⟨some 40, .mov (.t 42), none⟩])))
  (.cln [0, 2, 5, 10, 13, 14, 15, 25, 40] (.cond (.t 40) (.seq (.reg [⟨some 44, .load (some 9) (.t 5), none⟩,
    ⟨some 45, .mov (.t 2), none⟩,
    ⟨some 46, .faddr 9 (.t 10), none⟩,
    ⟨some 47, .load (some 5) (.t 46), none⟩,
    ⟨some 48, .call (.c (.fn 63 [] [])) [.t 44, .t 45, .t 47], none⟩,
    ⟨some 43, .mov (.t 48), none⟩,
    ⟨some 49, .extract (.t 43) 0, none⟩,
    ⟨some 50, .extract (.t 43) 1, none⟩,
    ⟨some 11, .alloc 1 (.agg [.int .i64 0, .str []]), none⟩,
    ⟨none, .store (some 2) (.t 11) (.t 49), none⟩,
    ⟨some 12, .mov (.t 50), none⟩])
  (.seq (.seq (.reg [⟨some 51, .mov (.t 12), none⟩,
    ⟨some 52, .bini .eql (.t 51) (.c (.int .i64 0)), none⟩])
  (.cond (.t 52) (.reg [⟨some 53, .mov (.t 0), none⟩,
    ⟨some 54, .load (some 9) (.t 5), none⟩,
    ⟨some 55, .load (some 2) (.t 11), none⟩,
    ⟨some 56, .call (.c (.fn 30 [] [])) [.t 54, .t 55], none⟩,
    ⟨some 57, .call (.c (.fn 94 [] [])) [.t 53, .t 56], none⟩]) (.skip)))
  (.cln [0, 2, 5, 10, 13, 14, 15] (.seq (.reg [⟨some 58, .mov (.t 0), none⟩,
    ⟨some 59, .load (some 9) (.t 5), none⟩,
    ⟨some 60, .mov (.t 2), none⟩,
    ⟨some 61, .faddr 9 (.t 10), none⟩,
    ⟨some 62, .load (some 5) (.t 61), none⟩,
    ⟨some 63, .call (.c (.fn 95 [] [])) [.t 58, .t 59, .t 60, .t 62], none⟩])
  (.seq (.reg [⟨some 64, .faddr 0 (.t 10), none⟩,
    ⟨some 65, .load none (.t 64), none⟩,
    ⟨some 66, .bini .eql (.t 65) (.c (.int .i64 2)), none⟩])
  (.cond (.t 66) (.reg [⟨some 67, .mov (.t 0), none⟩,
    ⟨some 68, .load (some 9) (.t 5), none⟩,
    ⟨some 69, .mov (.t 2), none⟩,
    ⟨some 70, .faddr 4 (.t 10), none⟩,
    ⟨some 71, .load (some 5) (.t 70), none⟩,
    ⟨some 72, .call (.c (.fn 95 [] [])) [.t 67, .t 68, .t 69, .t 71], none⟩]) (.regd [⟨0, ⟨some 73, .mov (.t 2), none⟩, false, [], []⟩,
    ⟨2, ⟨some 75, .faddr 1 (.t 10), none⟩, false, [], []⟩,
    ⟨3, ⟨some 76, .load none (.t 75), none⟩, false, [2], []⟩,
    ⟨4, ⟨some 77, .faddr 2 (.t 10), none⟩, false, [], []⟩,
    ⟨5, ⟨some 78, .load (some 2) (.t 77), none⟩, false, [4], []⟩,
    ⟨6, ⟨some 79, .build [.str [], .int .i64 0, .str []] [(0, 1, .t 76), (1, 2, .t 78)], none⟩, false, [2, 3, 4, 5], []⟩,
    ⟨7, ⟨some 80, .bsl [.agg [.str [], .int .i64 0, .str []]] [(0, .t 79)], none⟩, false, [2, 3, 4, 5, 6], []⟩,
    ⟨1, ⟨some 74, .call (.c (.fn 96 [] [])) [.t 73], none⟩, true, [0], [2, 3, 4, 5]⟩,
    ⟨8, ⟨some 81, .append 2 true 3 40 (.t 74) (.t 80), none⟩, true, .range 8, []⟩,
    ⟨9, ⟨some 2, .mov (.t 81), none⟩, true, .range 9, []⟩] (.range 10) 82))))))) (.seq (.reg [⟨some 83, .bini .eql (.t 25) (.c (.int .i64 3)), none⟩,
    ⟨some 82, .mov (.t 83), none⟩])
  (.cond (.t 82) (.seq (.reg [⟨some 84, .mov (.t 0), none⟩,
    ⟨some 85, .call (.c (.fn 94 [] [])) [.t 84, .c (.int .i64 1)], none⟩])
  (.seq (.reg [⟨some 86, .mov (.t 0), none⟩,
    ⟨some 87, .load (some 9) (.t 5), none⟩,
    ⟨some 88, .mov (.t 2), none⟩,
    ⟨some 89, .faddr 9 (.t 10), none⟩,
    ⟨some 90, .load (some 5) (.t 89), none⟩,
    ⟨some 91, .call (.c (.fn 95 [] [])) [.t 86, .t 87, .t 88, .t 90], none⟩])
  (.seq (.reg [⟨some 92, .mov (.t 0), none⟩,
    ⟨some 93, .load (some 9) (.t 5), none⟩,
    ⟨some 94, .mov (.t 2), none⟩,
    ⟨some 95, .faddr 15 (.t 10), none⟩,
    ⟨some 96, .load none (.t 95), none⟩,
    ⟨some 97, .call (.c (.fn 64 [] [])) [.t 92, .t 93, .t 94, .t 96], none⟩])
  (.reg [⟨some 98, .mov (.t 0), none⟩,
    ⟨some 99, .load (some 9) (.t 5), none⟩,
    ⟨some 100, .mov (.t 2), none⟩,
    ⟨some 101, .faddr 16 (.t 10), none⟩,
    ⟨some 102, .load none (.t 101), none⟩,
    ⟨some 103, .call (.c (.fn 64 [] [])) [.t 98, .t 99, .t 100, .t 102], none⟩])))) (.seq (.reg [⟨some 26, .mov (.t 0), none⟩,
    ⟨some 27, .call (.c (.fn 94 [] [])) [.t 26, .c (.int .i64 1)], none⟩])
  (.seq (.reg [⟨some 28, .mov (.t 0), none⟩,
    ⟨some 29, .load (some 9) (.t 5), none⟩,
    ⟨some 30, .mov (.t 2), none⟩,
    ⟨some 31, .faddr 15 (.t 10), none⟩,
    ⟨some 32, .load none (.t 31), none⟩,
    ⟨some 33, .call (.c (.fn 64 [] [])) [.t 28, .t 29, .t 30, .t 32], none⟩])
  (.reg [⟨some 34, .mov (.t 0), none⟩,
    ⟨some 35, .load (some 9) (.t 5), none⟩,
    ⟨some 36, .mov (.t 2), none⟩,
    ⟨some 37, .faddr 16 (.t 10), none⟩,
    ⟨some 38, .load none (.t 37), none⟩,
    ⟨some 39, .call (.c (.fn 64 [] [])) [.t 34, .t 35, .t 36, .t 38], none⟩]))))))))))))))
  (.cln [0, 2, 5, 13, 14, 15] (.reg [⟨some 104, .bini .add (.t 15) (.c (.int .i64 1)), none⟩,
    ⟨some 15, .mov (.t 104), none⟩])))))))
/-- (*frustum/types.weigher).block -/
def p64 : PFn := { nparams := 4, ntmps := 106, nobjs := 3, pure := false, keep := false, results := [⟨8, none⟩], body := (.cln (List.range 4) (.seq (.reg [⟨some 5, .boxi (.t 1), none⟩,
    ⟨some 8, .mov (.c (.vs .nil [])), none⟩])
  (.seq (.seq (.reg [⟨some 13, .mov (.t 3), none⟩,
    ⟨some 14, .lenl (.t 13), none⟩,
    ⟨some 15, .mov (.c (.int .i64 0)), none⟩])
  (.block 0 (p64l0)))
  (.cln [2] (.seq (.reg [⟨some 105, .frz (.t 2), none⟩,
    ⟨some 8, .mov (.t 105), none⟩])
  (.ret)))))) }
/-- frustum/types.Weight -/
def p41 : PFn := { nparams := 1, ntmps := 18, nobjs := 1, pure := true, keep := false, results := [⟨2, none⟩], body := (.cln (List.range 1) (.seq (.reg [⟨some 1, .boxi (.t 0), none⟩,
    ⟨some 2, .mov (.c (.int .i64 0)), none⟩])
  (.seq (.reg [⟨some 4, .faddr 7 (.t 1), none⟩,
    ⟨some 5, .load none (.t 4), none⟩,
    ⟨some 6, .lenl (.t 5), none⟩,
    ⟨some 7, .build [.int .i64 0, .int .i64 0, .int .i64 0] [(0, 1, .t 6)], none⟩,
    ⟨some 8, .box 0 (.t 7), none⟩,
    ⟨some 3, .mov (.t 8), none⟩])
  (.seq (.reg [⟨some 9, .mov (.t 3), none⟩,
    ⟨some 10, .load (some 9) (.t 1), none⟩,
    ⟨some 11, .faddr 8 (.t 1), none⟩,
    ⟨some 12, .load none (.t 11), none⟩,
    ⟨some 13, .call (.c (.fn 64 [] [])) [.t 9, .t 10, .c (.vs .nil []), .t 12], none⟩])
  (.seq (.reg [⟨some 14, .mov (.t 3), none⟩,
    ⟨some 15, .nilc (.t 14), none⟩,
    ⟨some 16, .faddr 1 (.t 15), none⟩,
    ⟨some 17, .load none (.t 16), none⟩,
    ⟨some 2, .mov (.t 17), none⟩])
  (.ret)))))) }
/-- frustum/types.Check$1 -/
def p39 : PFn := { nparams := 1, ntmps := 6, nobjs := 0, pure := true, keep := false, results := [⟨1, none⟩], body := (.cln (List.range 1) (.seq (.reg [⟨some 1, .mov (.c (.int .i64 0)), none⟩])
  (.seq (.reg [⟨some 2, .load (some 9) (.t 0), none⟩,
    ⟨some 3, .call (.c (.fn 41 [] [])) [.t 2], none⟩,
    ⟨some 4, .bini .gtr (.t 3) (.c (.int .i64 512)), none⟩,
    ⟨some 5, .call (.c (.fn 40 [] [])) [.t 4, .c (.int .i64 5)], none⟩,
    ⟨some 1, .mov (.t 5), none⟩])
  (.ret)))) }
/-- frustum/types.Check -/
def p20 : PFn := { nparams := 1, ntmps := 23, nobjs := 3, pure := true, keep := false, results := [⟨2, none⟩], body := (.cln (List.range 1) (.seq (.reg [⟨some 1, .boxi (.t 0), none⟩,
    ⟨some 2, .mov (.c (.int .i64 0)), none⟩])
  (.seq (.reg [⟨some 4, .load (some 9) (.t 1), none⟩,
    ⟨some 5, .mkmap 0, none⟩,
    ⟨some 6, .build [.int .i64 0, .vs .nil [], .vs .nil [], .vs .nil [], .vs .nil [], .vs .nil [], .vs .nil [], .vs .nil [], .vs .nil [], .nilmap] [(0, 9, .t 4), (9, 1, .t 5)], none⟩,
    ⟨some 7, .box 1 (.t 6), none⟩,
    ⟨some 3, .mov (.t 7), none⟩])
  (.seq (.reg [⟨some 8, .mov (.t 3), none⟩,
    ⟨some 9, .mkfn 33 [.t 8] [], none⟩,
    ⟨some 10, .mov (.t 3), none⟩,
    ⟨some 11, .mkfn 34 [.t 10] [], none⟩,
    ⟨some 12, .mov (.t 3), none⟩,
    ⟨some 13, .mkfn 35 [.t 12] [], none⟩,
    ⟨some 14, .mov (.t 3), none⟩,
    ⟨some 15, .mkfn 36 [.t 14] [], none⟩,
    ⟨some 16, .mov (.t 3), none⟩,
    ⟨some 17, .mkfn 37 [.t 16] [], none⟩,
    ⟨some 18, .mov (.t 3), none⟩,
    ⟨some 19, .mkfn 38 [.t 18] [], none⟩,
    ⟨some 20, .mkfn 39 [] [.t 1], none⟩,
    ⟨some 21, .bslm 2 false 1 [.nilfn, .nilfn, .nilfn, .nilfn, .nilfn, .nilfn, .nilfn] [(0, .t 9), (1, .t 11), (2, .t 13), (3, .t 15), (4, .t 17), (5, .t 19), (6, .t 20)], none⟩,
    ⟨some 22, .call (.c (.fn 32 [] [])) [.t 21], none⟩,
    ⟨some 2, .mov (.t 22), none⟩])
  (.ret))))) }
/-- frustum/link.ordered -/
def p21 : PFn := { nparams := 2, ntmps := 18, nobjs := 0, pure := true, keep := false, results := [⟨4, none⟩], body := (.cln (List.range 2) (.seq (.reg [⟨some 4, .mov (.c (.bool false)), none⟩])
  (.seq (.seq (.reg [⟨some 5, .mov (.t 0), none⟩])
  (.block 0 (.seq (.reg [⟨some 7, .bini .eql (.t 5) (.c (.int .i64 1)), none⟩,
    ⟨some 6, .mov (.t 7), none⟩])
  (.cond (.t 6) (.seq (.reg [⟨some 8, .mov (.t 1), none⟩,
    ⟨some 9, .bini .eql (.t 8) (.c (.int .i64 2)), none⟩,
    ⟨some 10, .mov (.t 9), none⟩,
    ⟨some 11, .mov (.t 1), some (10, false)⟩,
    ⟨some 12, .bini .eql (.t 11) (.c (.int .i64 3)), some (10, false)⟩,
    ⟨some 13, .pick (.t 10) (.c (.bool true)) (.t 12), none⟩,
    ⟨some 4, .mov (.t 13), none⟩])
  (.ret)) (.seq (.reg [⟨some 15, .bini .eql (.t 5) (.c (.int .i64 2)), none⟩,
    ⟨some 14, .mov (.t 15), none⟩])
  (.cond (.t 14) (.seq (.reg [⟨some 16, .mov (.t 1), none⟩,
    ⟨some 17, .bini .eql (.t 16) (.c (.int .i64 3)), none⟩,
    ⟨some 4, .mov (.t 17), none⟩])
  (.ret)) (.skip)))))))
  (.cln [] (.seq (.reg [⟨some 4, .mov (.c (.bool false)), none⟩])
  (.ret)))))) }
/-- frustum/link.vec4First -/
def p22 : PFn := { nparams := 1, ntmps := 16, nobjs := 0, pure := true, keep := false, results := [⟨2, none⟩], body := (.cln (List.range 1) (.seq (.reg [⟨some 1, .boxi (.t 0), none⟩,
    ⟨some 2, .mov (.c (.bool false)), none⟩])
  (.seq (.reg [⟨some 3, .faddr 6 (.t 1), none⟩,
    ⟨some 4, .load none (.t 3), none⟩,
    ⟨some 5, .lenl (.t 4), none⟩,
    ⟨some 6, .bini .gtr (.t 5) (.c (.int .i64 0)), none⟩,
    ⟨some 7, .mov (.t 6), none⟩,
    ⟨some 8, .faddr 6 (.t 1), some (7, true)⟩,
    ⟨some 9, .load none (.t 8), some (7, true)⟩,
    ⟨some 10, .iaddr 3 (.t 9) (.c (.int .i64 0)), some (7, true)⟩,
    ⟨some 11, .faddr 1 (.t 10), some (7, true)⟩,
    ⟨some 12, .load (some 2) (.t 11), some (7, true)⟩,
    ⟨some 13, .build [.int .i64 0, .str []] [(0, 1, .c (.int .i64 7))], some (7, true)⟩,
    ⟨some 14, .eq false (.parts [(0, 1, .ei), (1, 1, .es)]) (.t 12) (.t 13), some (7, true)⟩,
    ⟨some 15, .pick (.t 7) (.t 14) (.c (.bool false)), none⟩,
    ⟨some 2, .mov (.t 15), none⟩])
  (.ret)))) }
def p17l1 : PC := .loop (.cln [1, 3, 5, 8, 9, 13, 14, 15] (.seq (.reg [⟨some 16, .bini .lss (.t 15) (.t 14), none⟩])
  (.seq (.cond (.t 16) (.skip) (.exit 2))
  (.cln [1, 3, 5, 8, 9, 13, 14, 15] (.seq (.block 3 (.seq (.reg [⟨some 17, .iaddr 3 (.t 13) (.t 15), none⟩,
    ⟨some 18, .load (some 3) (.t 17), none⟩,
    ⟨some 7, .alloc 1 (.agg [.str [], .int .i64 0, .str []]), none⟩,
    ⟨none, .store (some 3) (.t 7) (.t 18), none⟩])
  (.reg [⟨some 19, .mov (.t 3), none⟩,
    ⟨some 20, .faddr 0 (.t 7), none⟩,
    ⟨some 21, .load none (.t 20), none⟩,
    ⟨some 22, .mov (.t 5), none⟩,
    ⟨some 23, .bins .add (.t 21) (.t 22), none⟩,
    ⟨some 24, .faddr 1 (.t 7), none⟩,
    ⟨some 25, .load (some 2) (.t 24), none⟩,
    ⟨some 26, .build [.str [], .int .i64 0, .str []] [(0, 1, .t 23), (1, 2, .t 25)], none⟩,
    ⟨some 27, .bsl [.agg [.str [], .int .i64 0, .str []]] [(0, .t 26)], none⟩,
    ⟨some 28, .append 2 true 3 40 (.t 19) (.t 27), none⟩,
    ⟨some 3, .mov (.t 28), none⟩])))
  (.cln [1, 3, 5, 8, 9, 13, 14, 15] (.reg [⟨some 29, .bini .add (.t 15) (.c (.int .i64 1)), none⟩,
    ⟨some 15, .mov (.t 29), none⟩])))))))
def p17l0 : PC := .loop (.cln [1, 3, 8, 9] (.seq (.reg [⟨some 10, .bini .lss (.t 9) (.c (.int .i64 3)), none⟩])
  (.seq (.cond (.t 10) (.skip) (.exit 0))
  (.cln [1, 3, 8, 9] (.seq (.block 1 (.seq (.reg [⟨some 11, .idx 3 1 none (.t 8) (.t 9), none⟩,
    ⟨some 5, .mov (.t 11), none⟩])
  (.seq (.reg [⟨some 12, .faddr 6 (.t 1), none⟩,
    ⟨some 13, .load none (.t 12), none⟩,
    ⟨some 14, .lenl (.t 13), none⟩,
    ⟨some 15, .mov (.c (.int .i64 0)), none⟩])
  (.block 2 (p17l1)))))
  (.cln [1, 3, 8, 9] (.reg [⟨some 30, .bini .add (.t 9) (.c (.int .i64 1)), none⟩,
    ⟨some 9, .mov (.t 30), none⟩])))))))
/-- frustum/link.GeometryInputs -/
def p17 : PFn := { nparams := 1, ntmps := 32, nobjs := 3, pure := true, keep := false, results := [⟨2, none⟩], body := (.cln (List.range 1) (.seq (.reg [⟨some 1, .boxi (.t 0), none⟩,
    ⟨some 2, .mov (.c (.vs .nil [])), none⟩])
  (.seq (.reg [⟨some 3, .vec 0 true 3, none⟩])
  (.seq (.seq (.reg [⟨some 8, .build [.str [], .str [], .str []] [(0, 1, .c (.str [48])), (1, 1, .c (.str [49])), (2, 1, .c (.str [50]))], none⟩,
    ⟨some 9, .mov (.c (.int .i64 0)), none⟩])
  (.block 0 (p17l0)))
  (.cln [3] (.seq (.reg [⟨some 31, .frz (.t 3), none⟩,
    ⟨some 2, .mov (.t 31), none⟩])
  (.ret))))))) }
/-- frustum/link.Varyings -/
def p18 : PFn := { nparams := 1, ntmps := 12, nobjs := 1, pure := true, keep := false, results := [⟨2, none⟩], body := (.cln (List.range 1) (.seq (.reg [⟨some 1, .boxi (.t 0), none⟩,
    ⟨some 2, .mov (.c (.vs .nil [])), none⟩])
  (.seq (.seq (.reg [⟨some 3, .faddr 6 (.t 1), none⟩,
    ⟨some 4, .load none (.t 3), none⟩,
    ⟨some 5, .lenl (.t 4), none⟩,
    ⟨some 6, .bini .eql (.t 5) (.c (.int .i64 0)), none⟩])
  (.cond (.t 6) (.seq (.reg [⟨some 2, .mov (.c (.vs .nil [])), none⟩])
  (.ret)) (.skip)))
  (.cln [1] (.seq (.reg [⟨some 7, .bsl [] [], none⟩,
    ⟨some 8, .faddr 6 (.t 1), none⟩,
    ⟨some 9, .load none (.t 8), none⟩,
    ⟨some 10, .slc 3 (.t 9) (some (.c (.int .i64 1))) none none, none⟩,
    ⟨some 11, .append 0 true 3 40 (.t 7) (.t 10), none⟩,
    ⟨some 2, .mov (.t 11), none⟩])
  (.ret)))))) }
/-- frustum/link.same -/
def p48 : PFn := { nparams := 5, ntmps := 58, nobjs := 0, pure := true, keep := false, results := [⟨10, none⟩], body := (.cln (List.range 5) (.seq (.reg [⟨some 5, .boxi (.t 0), none⟩,
    ⟨some 6, .boxi (.t 1), none⟩,
    ⟨some 7, .boxi (.t 2), none⟩,
    ⟨some 8, .boxi (.t 3), none⟩,
    ⟨some 10, .mov (.c (.bool false)), none⟩])
  (.seq (.seq (.reg [⟨some 13, .load (some 2) (.t 7), none⟩,
    ⟨some 14, .load (some 2) (.t 8), none⟩,
    ⟨some 15, .eq true (.parts [(0, 1, .ei), (1, 1, .es)]) (.t 13) (.t 14), none⟩])
  (.cond (.t 15) (.seq (.reg [⟨some 10, .mov (.c (.bool false)), none⟩])
  (.ret)) (.skip)))
  (.cln [4, 5, 6, 7] (.seq (.seq (.reg [⟨some 16, .faddr 0 (.t 7), none⟩,
    ⟨some 17, .load none (.t 16), none⟩,
    ⟨some 18, .bini .neq (.t 17) (.c (.int .i64 8)), none⟩])
  (.cond (.t 18) (.seq (.reg [⟨some 10, .mov (.c (.bool true)), none⟩])
  (.ret)) (.skip)))
  (.cln [4, 5, 6, 7] (.seq (.regd [⟨0, ⟨some 19, .load (some 9) (.t 5), none⟩, false, [], []⟩,
    ⟨1, ⟨some 20, .faddr 1 (.t 7), none⟩, false, [], []⟩,
    ⟨2, ⟨some 21, .load none (.t 20), none⟩, false, [1], []⟩,
    ⟨4, ⟨some 23, .load (some 9) (.t 6), none⟩, false, [], []⟩,
    ⟨5, ⟨some 24, .faddr 1 (.t 7), none⟩, false, [], []⟩,
    ⟨6, ⟨some 25, .load none (.t 24), none⟩, false, [5], []⟩,
    ⟨3, ⟨some 22, .call (.c (.fn 46 [] [])) [.t 19, .t 21], none⟩, true, [0, 1, 2], [4, 5, 6]⟩,
    ⟨7, ⟨some 26, .call (.c (.fn 46 [] [])) [.t 23, .t 25], none⟩, true, .range 7, []⟩,
    ⟨8, ⟨some 11, .mov (.t 22), none⟩, false, .range 8, []⟩,
    ⟨9, ⟨some 12, .mov (.t 26), none⟩, false, .range 9, []⟩] (.range 10) 27)
  (.seq (.seq (.reg [⟨some 27, .mov (.t 11), none⟩,
    ⟨some 28, .bini .lss (.t 27) (.c (.int .i64 0)), none⟩,
    ⟨some 29, .mov (.t 28), none⟩,
    ⟨some 30, .mov (.t 12), some (29, false)⟩,
    ⟨some 31, .bini .lss (.t 30) (.c (.int .i64 0)), some (29, false)⟩,
    ⟨some 32, .pick (.t 29) (.c (.bool true)) (.t 31), none⟩,
    ⟨some 33, .mov (.t 32), none⟩,
    ⟨some 34, .mov (.t 4), some (33, false)⟩,
    ⟨some 35, .faddr 1 (.t 5), some (33, false)⟩,
    ⟨some 36, .load none (.t 35), some (33, false)⟩,
    ⟨some 37, .lenl (.t 36), some (33, false)⟩,
    ⟨some 38, .bini .gtr (.t 34) (.t 37), some (33, false)⟩,
    ⟨some 39, .pick (.t 33) (.c (.bool true)) (.t 38), none⟩])
  (.cond (.t 39) (.seq (.reg [⟨some 10, .mov (.c (.bool false)), none⟩])
  (.ret)) (.skip)))
  (.cln [4, 5, 6, 11, 12] (.seq (.regd [⟨0, ⟨some 40, .load (some 9) (.t 5), none⟩, false, [], []⟩,
    ⟨1, ⟨some 41, .load (some 9) (.t 6), none⟩, false, [], []⟩,
    ⟨2, ⟨some 42, .faddr 1 (.t 5), none⟩, false, [], []⟩,
    ⟨3, ⟨some 43, .load none (.t 42), none⟩, false, [2], []⟩,
    ⟨4, ⟨some 44, .mov (.t 11), none⟩, false, [], []⟩,
    ⟨5, ⟨some 45, .iaddr 2 (.t 43) (.t 44), none⟩, false, [2, 3, 4], []⟩,
    ⟨6, ⟨some 46, .faddr 1 (.t 45), none⟩, false, [2, 3, 4, 5], []⟩,
    ⟨7, ⟨some 47, .load none (.t 46), none⟩, false, [2, 3, 4, 5, 6], []⟩,
    ⟨8, ⟨some 48, .faddr 1 (.t 6), none⟩, false, [], []⟩,
    ⟨9, ⟨some 49, .load none (.t 48), none⟩, false, [8], []⟩,
    ⟨10, ⟨some 50, .mov (.t 12), none⟩, false, [], []⟩,
    ⟨11, ⟨some 51, .iaddr 2 (.t 49) (.t 50), none⟩, false, [8, 9, 10], []⟩,
    ⟨12, ⟨some 52, .faddr 1 (.t 51), none⟩, false, [8, 9, 10, 11], []⟩,
    ⟨13, ⟨some 53, .load none (.t 52), none⟩, false, [8, 9, 10, 11, 12], []⟩,
    ⟨14, ⟨some 54, .mov (.t 4), none⟩, false, [], []⟩,
    ⟨15, ⟨some 55, .bini .add (.t 54) (.c (.int .i64 1)), none⟩, false, [14], []⟩,
    ⟨16, ⟨some 56, .call (.c (.fn 31 [] [])) [.t 40, .t 41, .t 47, .t 53, .t 55], none⟩, true, .range 16, []⟩,
    ⟨17, ⟨some 57, .bini .eql (.t 56) (.c (.int .i64 (-1))), none⟩, false, .range 17, []⟩,
    ⟨18, ⟨some 10, .mov (.t 57), none⟩, false, .range 18, []⟩] (.range 19) 58)
  (.ret))))))))))) }
def p31l0 : PC := .loop (.cln [2, 3, 4, 5, 6, 16, 17] (.seq (.reg [⟨some 18, .bini .lss (.t 17) (.t 16), none⟩])
  (.seq (.cond (.t 18) (.skip) (.exit 0))
  (.cln [2, 3, 4, 5, 6, 16, 17] (.seq (.block 1 (.seq (.reg [⟨some 19, .mov (.t 17), none⟩,
    ⟨some 11, .mov (.t 19), none⟩])
  (.seq (.regd [⟨0, ⟨some 20, .mov (.t 2), none⟩, false, [], []⟩,
    ⟨1, ⟨some 21, .mov (.t 11), none⟩, false, [], []⟩,
    ⟨2, ⟨some 22, .iaddr 3 (.t 20) (.t 21), none⟩, false, [0, 1], []⟩,
    ⟨3, ⟨some 23, .faddr 0 (.t 22), none⟩, false, [0, 1, 2], []⟩,
    ⟨4, ⟨some 24, .load none (.t 23), none⟩, false, [0, 1, 2, 3], []⟩,
    ⟨5, ⟨some 25, .mov (.t 3), none⟩, false, [], []⟩,
    ⟨6, ⟨some 26, .mov (.t 11), none⟩, false, [], []⟩,
    ⟨7, ⟨some 27, .iaddr 3 (.t 25) (.t 26), none⟩, false, [5, 6], []⟩,
    ⟨8, ⟨some 28, .faddr 0 (.t 27), none⟩, false, [5, 6, 7], []⟩,
    ⟨9, ⟨some 29, .load none (.t 28), none⟩, false, [5, 6, 7, 8], []⟩,
    ⟨10, ⟨some 30, .bins .neq (.t 24) (.t 29), none⟩, false, .range 10, []⟩,
    ⟨11, ⟨some 31, .mov (.t 30), none⟩, false, .range 11, []⟩,
    ⟨12, ⟨some 32, .load (some 9) (.t 5), some (31, false)⟩, false, .range 12, []⟩,
    ⟨13, ⟨some 33, .load (some 9) (.t 6), some (31, false)⟩, false, .range 12, []⟩,
    ⟨14, ⟨some 34, .mov (.t 2), some (31, false)⟩, false, .range 12, []⟩,
    ⟨15, ⟨some 35, .mov (.t 11), some (31, false)⟩, false, .range 12, []⟩,
    ⟨16, ⟨some 36, .iaddr 3 (.t 34) (.t 35), some (31, false)⟩, false, (.range 12 ++ [14, 15]), []⟩,
    ⟨17, ⟨some 37, .faddr 1 (.t 36), some (31, false)⟩, false, (.range 12 ++ [14, 15, 16]), []⟩,
    ⟨18, ⟨some 38, .load (some 2) (.t 37), some (31, false)⟩, false, (.range 12 ++ [14, 15, 16, 17]), []⟩,
    ⟨19, ⟨some 39, .mov (.t 3), some (31, false)⟩, false, .range 12, []⟩,
    ⟨20, ⟨some 40, .mov (.t 11), some (31, false)⟩, false, .range 12, []⟩,
    ⟨21, ⟨some 41, .iaddr 3 (.t 39) (.t 40), some (31, false)⟩, false, (.range 12 ++ [19, 20]), []⟩,
    ⟨22, ⟨some 42, .faddr 1 (.t 41), some (31, false)⟩, false, (.range 12 ++ [19, 20, 21]), []⟩,
    ⟨23, ⟨some 43, .load (some 2) (.t 42), some (31, false)⟩, false, (.range 12 ++ [19, 20, 21, 22]), []⟩,
    ⟨24, ⟨some 44, .mov (.t 4), some (31, false)⟩, false, .range 12, []⟩,
    ⟨25, ⟨some 45, .call (.c (.fn 48 [] [])) [.t 32, .t 33, .t 38, .t 43, .t 44], some (31, false)⟩, true, .range 25, []⟩,
    ⟨26, ⟨some 46, .notb (.t 45), some (31, false)⟩, false, .range 26, []⟩,
    ⟨27, ⟨some 47, .pick (.t 31) (.c (.bool true)) (.t 46), none⟩, false, .range 27, []⟩] (.range 28) 48)
  (.cond (.t 47) (.seq (.reg [⟨some 48, .mov (.t 11), none⟩,
    ⟨some 10, .mov (.t 48), none⟩])
  (.ret)) (.skip)))))
  (.cln [2, 3, 4, 5, 6, 16, 17] (.reg [⟨some 49, .bini .add (.t 17) (.c (.int .i64 1)), none⟩,
    ⟨some 17, .mov (.t 49), none⟩])))))))
/-- frustum/link.differ -/
def p31 : PFn := { nparams := 5, ntmps := 60, nobjs := 0, pure := true, keep := false, results := [⟨10, none⟩], body := (.cln (List.range 5) (.seq (.reg [⟨some 5, .boxi (.t 0), none⟩,
    ⟨some 6, .boxi (.t 1), none⟩,
    ⟨some 10, .mov (.c (.int .i64 0)), none⟩])
  (.seq (.seq (.reg [⟨some 12, .mov (.t 2), none⟩,
    ⟨some 13, .lenl (.t 12), none⟩,
    ⟨some 14, .mov (.t 3), none⟩,
    ⟨some 15, .lenl (.t 14), none⟩,
    ⟨some 16, .mn (.t 13) [.t 15], none⟩,
    ⟨some 17, .mov (.c (.int .i64 0)), none⟩])
  (.block 0 (p31l0)))
  (.cln [2, 3] (.seq (.seq (.reg [⟨some 50, .mov (.t 2), none⟩,
    ⟨some 51, .lenl (.t 50), none⟩,
    ⟨some 52, .mov (.t 3), none⟩,
    ⟨some 53, .lenl (.t 52), none⟩,
    ⟨some 54, .bini .neq (.t 51) (.t 53), none⟩])
  (.cond (.t 54) (.seq (.reg [⟨some 55, .mov (.t 2), none⟩,
    ⟨some 56, .lenl (.t 55), none⟩,
    ⟨some 57, .mov (.t 3), none⟩,
    ⟨some 58, .lenl (.t 57), none⟩,
    ⟨some 59, .mn (.t 56) [.t 58], none⟩,
    ⟨some 10, .mov (.t 59), none⟩])
  (.ret)) (.skip)))
  (.cln [] (.seq (.reg [⟨some 10, .mov (.c (.int .i64 (-1))), none⟩])
  (.ret)))))))) }
/-- frustum/link.EqualFields -/
def p16 : PFn := { nparams := 4, ntmps := 14, nobjs := 0, pure := true, keep := false, results := [⟨8, none⟩], body := (.cln (List.range 4) (.seq (.reg [⟨some 4, .boxi (.t 0), none⟩,
    ⟨some 5, .boxi (.t 1), none⟩,
    ⟨some 8, .mov (.c (.int .i64 0)), none⟩])
  (.seq (.reg [⟨some 9, .load (some 9) (.t 4), none⟩,
    ⟨some 10, .load (some 9) (.t 5), none⟩,
    ⟨some 11, .mov (.t 2), none⟩,
    ⟨some 12, .mov (.t 3), none⟩,
    ⟨some 13, .call (.c (.fn 31 [] [])) [.t 9, .t 10, .t 11, .t 12, .c (.int .i64 0)], none⟩,
    ⟨some 8, .mov (.t 13), none⟩])
  (.ret)))) }
/-- frustum/link.Check -/
def p10 : PFn := { nparams := 2, ntmps := 61, nobjs := 0, pure := true, keep := false, results := [⟨4, none⟩, ⟨5, none⟩], body := (.cln (List.range 2) (.seq (.reg [⟨some 2, .boxi (.t 0), none⟩,
    ⟨some 3, .boxi (.t 1), none⟩,
    ⟨some 4, .mov (.c (.int .i64 0)), none⟩,
    ⟨some 5, .mov (.c (.int .i64 0)), none⟩])
  (.seq (.block 0 (.seq (.reg [⟨some 9, .load (some 9) (.t 2), none⟩,
    ⟨some 10, .call (.c (.fn 20 [] [])) [.t 9], none⟩,
    ⟨some 11, .bini .neq (.t 10) (.c (.int .i64 0)), none⟩,
    ⟨some 12, .mov (.t 11), none⟩,
    ⟨some 13, .load (some 9) (.t 3), some (12, false)⟩,
    ⟨some 14, .call (.c (.fn 20 [] [])) [.t 13], some (12, false)⟩,
    ⟨some 15, .bini .neq (.t 14) (.c (.int .i64 0)), some (12, false)⟩,
    ⟨some 16, .pick (.t 12) (.c (.bool true)) (.t 15), none⟩,
    ⟨some 8, .mov (.t 16), none⟩])
  (.cond (.t 8) (.seq (.reg [⟨some 4, .mov (.c (.int .i64 (-1))), none⟩,
    ⟨some 5, .mov (.c (.int .i64 17)), none⟩])
  (.ret)) (.seq (.reg [⟨some 18, .faddr 0 (.t 2), none⟩,
    ⟨some 19, .load none (.t 18), none⟩,
    ⟨some 20, .faddr 0 (.t 3), none⟩,
    ⟨some 21, .load none (.t 20), none⟩,
    ⟨some 22, .call (.c (.fn 21 [] [])) [.t 19, .t 21], none⟩,
    ⟨some 23, .notb (.t 22), none⟩,
    ⟨some 17, .mov (.t 23), none⟩])
  (.cond (.t 17) (.seq (.reg [⟨some 4, .mov (.c (.int .i64 (-1))), none⟩,
    ⟨some 5, .mov (.c (.int .i64 10)), none⟩])
  (.ret)) (.seq (.reg [⟨some 25, .load (some 9) (.t 2), none⟩,
    ⟨some 26, .call (.c (.fn 22 [] [])) [.t 25], none⟩,
    ⟨some 27, .notb (.t 26), none⟩,
    ⟨some 28, .mov (.t 27), none⟩,
    ⟨some 29, .faddr 6 (.t 2), some (28, false)⟩,
    ⟨some 30, .load none (.t 29), some (28, false)⟩,
    ⟨some 31, .iaddr 3 (.t 30) (.c (.int .i64 0)), some (28, false)⟩,
    ⟨some 32, .faddr 0 (.t 31), some (28, false)⟩,
    ⟨some 33, .load none (.t 32), some (28, false)⟩,
    ⟨some 34, .bins .neq (.t 33) (.c (.str [112, 111, 115, 105, 116, 105, 111, 110])), some (28, false)⟩,
    ⟨some 35, .pick (.t 28) (.c (.bool true)) (.t 34), none⟩,
    ⟨some 24, .mov (.t 35), none⟩])
  (.cond (.t 24) (.seq (.reg [⟨some 4, .mov (.c (.int .i64 (-1))), none⟩,
    ⟨some 5, .mov (.c (.int .i64 18)), none⟩])
  (.ret)) (.seq (.reg [⟨some 37, .faddr 0 (.t 3), none⟩,
    ⟨some 38, .load none (.t 37), none⟩,
    ⟨some 39, .bini .eql (.t 38) (.c (.int .i64 3)), none⟩,
    ⟨some 40, .mov (.t 39), none⟩,
    ⟨some 41, .load (some 9) (.t 3), some (40, true)⟩,
    ⟨some 42, .call (.c (.fn 22 [] [])) [.t 41], some (40, true)⟩,
    ⟨some 43, .notb (.t 42), some (40, true)⟩,
    ⟨some 44, .pick (.t 40) (.t 43) (.c (.bool false)), none⟩,
    ⟨some 36, .mov (.t 44), none⟩])
  (.cond (.t 36) (.seq (.reg [⟨some 4, .mov (.c (.int .i64 (-1))), none⟩,
    ⟨some 5, .mov (.c (.int .i64 18)), none⟩])
  (.ret)) (.skip))))))))))
  (.cln [2, 3] (.seq (.reg [⟨some 45, .load (some 9) (.t 2), none⟩,
    ⟨some 46, .call (.c (.fn 17 [] [])) [.t 45], none⟩,
    ⟨some 6, .mov (.t 46), none⟩])
  (.seq (.seq (.reg [⟨some 47, .faddr 0 (.t 3), none⟩,
    ⟨some 48, .load none (.t 47), none⟩,
    ⟨some 49, .bini .eql (.t 48) (.c (.int .i64 3)), none⟩])
  (.cond (.t 49) (.reg [⟨some 50, .load (some 9) (.t 2), none⟩,
    ⟨some 51, .call (.c (.fn 18 [] [])) [.t 50], none⟩,
    ⟨some 6, .mov (.t 51), none⟩]) (.skip)))
  (.cln [2, 3, 6] (.seq (.seq (.reg [⟨some 52, .load (some 9) (.t 2), none⟩,
    ⟨some 53, .load (some 9) (.t 3), none⟩,
    ⟨some 54, .mov (.t 6), none⟩,
    ⟨some 55, .faddr 5 (.t 3), none⟩,
    ⟨some 56, .load none (.t 55), none⟩,
    ⟨some 57, .call (.c (.fn 16 [] [])) [.t 52, .t 53, .t 54, .t 56], none⟩,
    ⟨some 7, .mov (.t 57), none⟩])
  (.seq (.reg [⟨some 58, .mov (.t 7), none⟩,
    ⟨some 59, .bini .neq (.t 58) (.c (.int .i64 (-1))), none⟩])
  (.cond (.t 59) (.seq (.reg [⟨some 60, .mov (.t 7), none⟩,
    ⟨some 4, .mov (.t 60), none⟩,
    ⟨some 5, .mov (.c (.int .i64 18)), none⟩])
  (.ret)) (.skip))))
  (.cln [] (.seq (.reg [⟨some 4, .mov (.c (.int .i64 (-1))), none⟩,
    ⟨some 5, .mov (.c (.int .i64 0)), none⟩])
  (.ret))))))))))) }
/-- frustum/link.Pipeline -/
def p13 : PFn := { nparams := 4, ntmps := 56, nobjs := 0, pure := true, keep := false, results := [⟨8, none⟩], body := (.cln (List.range 4) (.seq (.reg [⟨some 4, .boxi (.t 0), none⟩,
    ⟨some 5, .boxi (.t 1), none⟩,
    ⟨some 6, .boxi (.t 2), none⟩,
    ⟨some 8, .mov (.c (.int .i64 0)), none⟩])
  (.seq (.seq (.reg [⟨some 15, .faddr 0 (.t 4), none⟩,
    ⟨some 16, .load none (.t 15), none⟩,
    ⟨some 17, .bini .neq (.t 16) (.c (.int .i64 1)), none⟩,
    ⟨some 18, .mov (.t 17), none⟩,
    ⟨some 19, .faddr 0 (.t 6), some (18, false)⟩,
    ⟨some 20, .load none (.t 19), some (18, false)⟩,
    ⟨some 21, .bini .neq (.t 20) (.c (.int .i64 3)), some (18, false)⟩,
    ⟨some 22, .pick (.t 18) (.c (.bool true)) (.t 21), none⟩,
    ⟨some 23, .mov (.t 22), none⟩,
    ⟨some 24, .mov (.t 3), some (23, false)⟩,
    ⟨some 25, .mov (.t 24), some (23, false)⟩,
    ⟨some 26, .faddr 0 (.t 5), some (25, true)⟩,
    ⟨some 27, .load none (.t 26), some (25, true)⟩,
    ⟨some 28, .bini .neq (.t 27) (.c (.int .i64 2)), some (25, true)⟩,
    ⟨some 29, .pick (.t 25) (.t 28) (.c (.bool false)), some (23, false)⟩,
    ⟨some 30, .pick (.t 23) (.c (.bool true)) (.t 29), none⟩])
  (.cond (.t 30) (.seq (.reg [⟨some 8, .mov (.c (.int .i64 10)), none⟩])
  (.ret)) (.skip)))
  (.cln [3, 4, 5, 6] (.seq (.seq (.reg [⟨some 31, .mov (.t 3), none⟩,
    ⟨some 32, .notb (.t 31), none⟩])
  (.cond (.t 32) (.seq (.reg [⟨some 34, .load (some 9) (.t 4), none⟩,
    ⟨some 35, .load (some 9) (.t 6), none⟩,
    ⟨some 36, .call (.c (.fn 10 [] [])) [.t 34, .t 35], none⟩,
    ⟨some 33, .mov (.t 36), none⟩,
    ⟨some 37, .extract (.t 33) 0, none⟩,
    ⟨some 38, .extract (.t 33) 1, none⟩,
    ⟨some 9, .mov (.t 37), none⟩,
    ⟨some 10, .mov (.t 38), none⟩])
  (.seq (.reg [⟨some 39, .mov (.t 10), none⟩,
    ⟨some 8, .mov (.t 39), none⟩])
  (.ret))) (.skip)))
  (.cln [4, 5, 6] (.seq (.seq (.reg [⟨some 41, .load (some 9) (.t 4), none⟩,
    ⟨some 42, .load (some 9) (.t 5), none⟩,
    ⟨some 43, .call (.c (.fn 10 [] [])) [.t 41, .t 42], none⟩,
    ⟨some 40, .mov (.t 43), none⟩,
    ⟨some 44, .extract (.t 40) 0, none⟩,
    ⟨some 45, .extract (.t 40) 1, none⟩,
    ⟨some 11, .mov (.t 44), none⟩,
    ⟨some 12, .mov (.t 45), none⟩])
  (.seq (.reg [⟨some 46, .mov (.t 12), none⟩,
    ⟨some 47, .bini .neq (.t 46) (.c (.int .i64 0)), none⟩])
  (.cond (.t 47) (.seq (.reg [⟨some 48, .mov (.t 12), none⟩,
    ⟨some 8, .mov (.t 48), none⟩])
  (.ret)) (.skip))))
  (.cln [5, 6] (.seq (.reg [⟨some 50, .load (some 9) (.t 5), none⟩,
    ⟨some 51, .load (some 9) (.t 6), none⟩,
    ⟨some 52, .call (.c (.fn 10 [] [])) [.t 50, .t 51], none⟩,
    ⟨some 49, .mov (.t 52), none⟩,
    ⟨some 53, .extract (.t 49) 0, none⟩,
    ⟨some 54, .extract (.t 49) 1, none⟩,
    ⟨some 13, .mov (.t 53), none⟩,
    ⟨some 14, .mov (.t 54), none⟩])
  (.seq (.reg [⟨some 55, .mov (.t 14), none⟩,
    ⟨some 8, .mov (.t 55), none⟩])
  (.ret))))))))))) }
/-- frustum/frustumlaw28.example -/
def p9 : PFn := { nparams := 0, ntmps := 53, nobjs := 2, pure := true, keep := false, results := [⟨0, none⟩], body := (.cln (List.range 0) (.seq (.reg [⟨some 0, .mov (.c (.bool false)), none⟩])
  (.seq (.reg [⟨some 7, .call (.c (.fn 19 [] [])) [.c (.int .i64 7)], none⟩,
    ⟨some 8, .build [.str [], .int .i64 0, .str []] [(0, 1, .c (.str [112, 111, 115, 105, 116, 105, 111, 110])), (1, 2, .t 7)], none⟩,
    ⟨some 9, .call (.c (.fn 19 [] [])) [.c (.int .i64 5)], none⟩,
    ⟨some 10, .build [.str [], .int .i64 0, .str []] [(0, 1, .c (.str [117, 118])), (1, 2, .t 9)], none⟩,
    ⟨some 11, .bsl [.agg [.str [], .int .i64 0, .str []], .agg [.str [], .int .i64 0, .str []]] [(0, .t 8), (1, .t 10)], none⟩,
    ⟨some 12, .build [.int .i64 0, .vs .nil [], .vs .nil [], .vs .nil [], .vs .nil [], .vs .nil [], .vs .nil [], .vs .nil [], .vs .nil []] [(0, 1, .c (.int .i64 1)), (6, 1, .t 11)], none⟩,
    ⟨some 1, .alloc 0 (.agg [.int .i64 0, .vs .nil [], .vs .nil [], .vs .nil [], .vs .nil [], .vs .nil [], .vs .nil [], .vs .nil [], .vs .nil []]), none⟩,
    ⟨none, .store (some 9) (.t 1) (.t 12), none⟩])
  (.seq (.reg [⟨some 13, .call (.c (.fn 19 [] [])) [.c (.int .i64 5)], none⟩,
    ⟨some 14, .build [.str [], .int .i64 0, .str []] [(0, 1, .c (.str [117, 118])), (1, 2, .t 13)], none⟩,
    ⟨some 15, .bsl [.agg [.str [], .int .i64 0, .str []]] [(0, .t 14)], none⟩,
    ⟨some 16, .call (.c (.fn 19 [] [])) [.c (.int .i64 7)], none⟩,
    ⟨some 17, .build [.str [], .int .i64 0, .str []] [(0, 1, .c (.str [99, 111, 108, 111, 114])), (1, 2, .t 16)], none⟩,
    ⟨some 18, .bsl [.agg [.str [], .int .i64 0, .str []]] [(0, .t 17)], none⟩,
    ⟨some 19, .build [.int .i64 0, .vs .nil [], .vs .nil [], .vs .nil [], .vs .nil [], .vs .nil [], .vs .nil [], .vs .nil [], .vs .nil []] [(0, 1, .c (.int .i64 3)), (5, 1, .t 15), (6, 1, .t 18)], none⟩,
    ⟨some 2, .alloc 1 (.agg [.int .i64 0, .vs .nil [], .vs .nil [], .vs .nil [], .vs .nil [], .vs .nil [], .vs .nil [], .vs .nil [], .vs .nil []]), none⟩,
    ⟨none, .store (some 9) (.t 2) (.t 19), none⟩])
  (.seq (.reg [⟨some 21, .load (some 9) (.t 1), none⟩,
    ⟨some 22, .load (some 9) (.t 2), none⟩,
    ⟨some 23, .call (.c (.fn 10 [] [])) [.t 21, .t 22], none⟩,
    ⟨some 20, .mov (.t 23), none⟩,
    ⟨some 24, .extract (.t 20) 0, none⟩,
    ⟨some 25, .extract (.t 20) 1, none⟩,
    ⟨some 3, .mov (.t 24), none⟩,
    ⟨some 4, .mov (.t 25), none⟩])
  (.seq (.reg [⟨some 27, .load (some 9) (.t 2), none⟩,
    ⟨some 28, .load (some 9) (.t 1), none⟩,
    ⟨some 29, .call (.c (.fn 10 [] [])) [.t 27, .t 28], none⟩,
    ⟨some 26, .mov (.t 29), none⟩,
    ⟨some 30, .extract (.t 26) 0, none⟩,
    ⟨some 31, .extract (.t 26) 1, none⟩,
    ⟨some 5, .mov (.t 30), none⟩,
    ⟨some 6, .mov (.t 31), none⟩])
  (.seq (.reg [⟨some 32, .mov (.t 3), none⟩,
    ⟨some 33, .bini .eql (.t 32) (.c (.int .i64 (-1))), none⟩,
    ⟨some 34, .mov (.t 33), none⟩,
    ⟨some 35, .mov (.t 4), some (34, true)⟩,
    ⟨some 36, .bini .eql (.t 35) (.c (.int .i64 0)), some (34, true)⟩,
    ⟨some 37, .pick (.t 34) (.t 36) (.c (.bool false)), none⟩,
    ⟨some 38, .mov (.t 37), none⟩,
    ⟨some 39, .mov (.t 5), some (38, true)⟩,
    ⟨some 40, .bini .eql (.t 39) (.c (.int .i64 (-1))), some (38, true)⟩,
    ⟨some 41, .pick (.t 38) (.t 40) (.c (.bool false)), none⟩,
    ⟨some 42, .mov (.t 41), none⟩,
    ⟨some 43, .mov (.t 6), some (42, true)⟩,
    ⟨some 44, .bini .eql (.t 43) (.c (.int .i64 10)), some (42, true)⟩,
    ⟨some 45, .pick (.t 42) (.t 44) (.c (.bool false)), none⟩,
    ⟨some 46, .mov (.t 45), none⟩,
    ⟨some 47, .load (some 9) (.t 1), some (46, true)⟩,
    ⟨some 48, .build [.int .i64 0, .vs .nil [], .vs .nil [], .vs .nil [], .vs .nil [], .vs .nil [], .vs .nil [], .vs .nil [], .vs .nil []] [], some (46, true)⟩,
    ⟨some 49, .load (some 9) (.t 2), some (46, true)⟩,
    ⟨some 50, .call (.c (.fn 13 [] [])) [.t 47, .t 48, .t 49, .c (.bool false)], some (46, true)⟩,
    ⟨some 51, .bini .eql (.t 50) (.c (.int .i64 0)), some (46, true)⟩,
    ⟨some 52, .pick (.t 46) (.t 51) (.c (.bool false)), none⟩,
    ⟨some 0, .mov (.t 52), none⟩])
  (.ret)))))))) }
/-- frustum/frustumref18.exprs -/
def p172 : PFn := { nparams := 1, ntmps := 18, nobjs := 0, pure := true, keep := false, results := [⟨2, none⟩], body := (.cln (List.range 1) (.seq (.reg [⟨some 1, .boxi (.t 0), none⟩,
    ⟨some 2, .mov (.c (.vs .nil [])), none⟩])
  (.seq (.seq (.reg [⟨some 3, .faddr 0 (.t 1), none⟩,
    ⟨some 4, .load none (.t 3), none⟩])
  (.block 0 (.seq (.seq (.reg [⟨some 6, .bini .eql (.t 4) (.c (.int .i64 1)), none⟩,
    ⟨some 5, .mov (.t 6), none⟩])
  (.cond (.t 5) (.skip) (.reg [⟨some 7, .bini .eql (.t 4) (.c (.int .i64 3)), none⟩,
    ⟨some 5, .mov (.t 7), none⟩])))
  (.cln [1, 4, 5] (.cond (.t 5) (.seq (.reg [⟨some 8, .faddr 9 (.t 1), none⟩,
    ⟨some 9, .load (some 5) (.t 8), none⟩,
    ⟨some 10, .bsl [.agg [.int .i64 0, .int .i64 0, .str [], .int .i64 0, .vs .nil []]] [(0, .t 9)], none⟩,
    ⟨some 2, .mov (.t 10), none⟩])
  (.ret)) (.seq (.reg [⟨some 12, .bini .eql (.t 4) (.c (.int .i64 2)), none⟩,
    ⟨some 11, .mov (.t 12), none⟩])
  (.cond (.t 11) (.seq (.reg [⟨some 13, .faddr 4 (.t 1), none⟩,
    ⟨some 14, .load (some 5) (.t 13), none⟩,
    ⟨some 15, .faddr 9 (.t 1), none⟩,
    ⟨some 16, .load (some 5) (.t 15), none⟩,
    ⟨some 17, .bsl [.agg [.int .i64 0, .int .i64 0, .str [], .int .i64 0, .vs .nil []], .agg [.int .i64 0, .int .i64 0, .str [], .int .i64 0, .vs .nil []]] [(0, .t 14), (1, .t 16)], none⟩,
    ⟨some 2, .mov (.t 17), none⟩])
  (.ret)) (.skip))))))))
  (.cln [] (.seq (.reg [⟨some 2, .mov (.c (.vs .nil [])), none⟩])
  (.ret)))))) }
def p136l0 : PC := .loop (.cln [1, 3, 4] (.seq (.seq (.reg [⟨some 5, .mov (.t 4), none⟩,
    ⟨some 6, .faddr 4 (.t 1), none⟩,
    ⟨some 7, .load none (.t 6), none⟩,
    ⟨some 8, .lenl (.t 7), none⟩,
    ⟨some 9, .bini .lss (.t 5) (.t 8), none⟩])
  (.cond (.t 9) (.skip) (.exit 0)))
  (.cln [1, 3, 4] (.seq (.block 1 (.reg [⟨some 12, .mov (.t 3), none⟩,
    ⟨some 13, .faddr 4 (.t 1), none⟩,
    ⟨some 14, .load none (.t 13), none⟩,
    ⟨some 15, .mov (.t 4), none⟩,
    ⟨some 16, .iaddr 5 (.t 14) (.t 15), none⟩,
    ⟨some 17, .load (some 5) (.t 16), none⟩,
    ⟨some 18, .call (.c (.fn 136 [] [])) [.t 17], none⟩,
    ⟨some 19, .bini .add (.t 12) (.t 18), none⟩,
    ⟨some 3, .mov (.t 19), none⟩]))
  (.cln [1, 3, 4] (.reg [⟨some 10, .mov (.t 4), none⟩,
    ⟨some 11, .bini .add (.t 10) (.c (.int .i64 1)), none⟩,
    ⟨some 4, .mov (.t 11), none⟩]))))))
/-- frustum/frustumref18.ExprNodes -/
def p136 : PFn := { nparams := 1, ntmps := 21, nobjs := 0, pure := true, keep := false, results := [⟨2, none⟩], body := (.cln (List.range 1) (.seq (.reg [⟨some 1, .boxi (.t 0), none⟩,
    ⟨some 2, .mov (.c (.int .i64 0)), none⟩])
  (.seq (.reg [⟨some 3, .mov (.c (.int .i64 1)), none⟩])
  (.seq (.seq (.reg [⟨some 4, .mov (.c (.int .i64 0)), none⟩])
  (.block 0 (p136l0)))
  (.cln [3] (.seq (.reg [⟨some 20, .mov (.t 3), none⟩,
    ⟨some 2, .mov (.t 20), none⟩])
  (.ret))))))) }
def p135l1 : PC := .loop (.cln [0, 3, 4, 5, 6] (.seq (.seq (.reg [⟨some 34, .mov (.t 6), none⟩,
    ⟨some 35, .mov (.t 5), none⟩,
    ⟨some 36, .lenl (.t 35), none⟩,
    ⟨some 37, .bini .lss (.t 34) (.t 36), none⟩])
  (.cond (.t 37) (.skip) (.exit 2)))
  (.cln [0, 3, 4, 5, 6] (.seq (.block 3 (.reg [⟨some 40, .mov (.t 3), none⟩,
    ⟨some 41, .mov (.t 5), none⟩,
    ⟨some 42, .mov (.t 6), none⟩,
    ⟨some 43, .iaddr 5 (.t 41) (.t 42), none⟩,
    ⟨some 44, .load (some 5) (.t 43), none⟩,
    ⟨some 45, .call (.c (.fn 136 [] [])) [.t 44], none⟩,
    ⟨some 46, .bini .add (.t 40) (.t 45), none⟩,
    ⟨some 3, .mov (.t 46), none⟩]))
  (.cln [0, 3, 4, 5, 6] (.reg [⟨some 38, .mov (.t 6), none⟩,
    ⟨some 39, .bini .add (.t 38) (.c (.int .i64 1)), none⟩,
    ⟨some 6, .mov (.t 39), none⟩]))))))
def p135l0 : PC := .loop (.cln [0, 3, 4] (.seq (.seq (.reg [⟨some 7, .mov (.t 4), none⟩,
    ⟨some 8, .mov (.t 0), none⟩,
    ⟨some 9, .lenl (.t 8), none⟩,
    ⟨some 10, .bini .lss (.t 7) (.t 9), none⟩])
  (.cond (.t 10) (.skip) (.exit 0)))
  (.cln [0, 3, 4] (.seq (.block 1 (.seq (.regd [⟨0, ⟨some 13, .mov (.t 3), none⟩, false, [], []⟩,
    ⟨1, ⟨some 14, .bini .add (.t 13) (.c (.int .i64 1)), none⟩, false, [0], []⟩,
    ⟨2, ⟨some 15, .mov (.t 0), none⟩, false, [], []⟩,
    ⟨3, ⟨some 16, .mov (.t 4), none⟩, false, [], []⟩,
    ⟨4, ⟨some 17, .iaddr 17 (.t 15) (.t 16), none⟩, false, [2, 3], []⟩,
    ⟨5, ⟨some 18, .faddr 15 (.t 17), none⟩, false, [2, 3, 4], []⟩,
    ⟨6, ⟨some 19, .load none (.t 18), none⟩, false, [2, 3, 4, 5], []⟩,
    ⟨9, ⟨some 22, .mov (.t 0), none⟩, false, [], []⟩,
    ⟨10, ⟨some 23, .mov (.t 4), none⟩, false, [], []⟩,
    ⟨11, ⟨some 24, .iaddr 17 (.t 22) (.t 23), none⟩, false, [9, 10], []⟩,
    ⟨12, ⟨some 25, .faddr 16 (.t 24), none⟩, false, [9, 10, 11], []⟩,
    ⟨13, ⟨some 26, .load none (.t 25), none⟩, false, [9, 10, 11, 12], []⟩,
    ⟨7, ⟨some 20, .call (.c (.fn 135 [] [])) [.t 19], none⟩, true, [2, 3, 4, 5, 6], [11, 12, 13]⟩,
    ⟨8, ⟨some 21, .bini .add (.t 14) (.t 20), none⟩, false, .range 8, []⟩,
    ⟨14, ⟨some 27, .call (.c (.fn 135 [] [])) [.t 26], none⟩, true, [2, 3, 4, 5, 6, 7, 9, 10, 11, 12, 13], []⟩,
    ⟨15, ⟨some 28, .bini .add (.t 21) (.t 27), none⟩, false, .range 15, []⟩,
    ⟨16, ⟨some 3, .mov (.t 28), none⟩, true, .range 16, []⟩] (.range 17) 29)
  (.seq (.reg [⟨some 29, .mov (.t 0), none⟩,
    ⟨some 30, .mov (.t 4), none⟩,
    ⟨some 31, .iaddr 17 (.t 29) (.t 30), none⟩,
    ⟨some 32, .load (some 17) (.t 31), none⟩,
    ⟨some 33, .call (.c (.fn 172 [] [])) [.t 32], none⟩,
    ⟨some 5, .mov (.t 33), none⟩])
  (.seq (.reg [⟨some 6, .mov (.c (.int .i64 0)), none⟩])
  (.block 2 (p135l1))))))
  (.cln [0, 3, 4] (.reg [⟨some 11, .mov (.t 4), none⟩,
    ⟨some 12, .bini .add (.t 11) (.c (.int .i64 1)), none⟩,
    ⟨some 4, .mov (.t 12), none⟩]))))))
end Go.VI.S
