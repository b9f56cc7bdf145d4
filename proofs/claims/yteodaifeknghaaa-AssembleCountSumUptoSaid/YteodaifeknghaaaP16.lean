/- The seat's functions as VI's codes, printed by a program. -/
import Derived.Test.YteodaifeknghaaaVi0
set_option maxRecDepth 100000
namespace Go.VI.S
open Go.VI

/-- frustum/assemble.Valid -/
def p17 : PFn := { nparams := 1, ntmps := 9, nobjs := 0, pure := true, keep := false, results := [⟨2, none⟩], body := (.cln (List.range 1) (.seq (.reg [{ dst := some 2, op := .mov (.c (.bool false)) }])
  (.seq (.reg [{ dst := some 3, op := .mov (.t 0) },
    { dst := some 4, op := .bini .geq (.t 3) (.c (.int .i64 1)) },
    { dst := some 5, op := .mov (.t 4) },
    { dst := some 6, op := .mov (.t 0), guard := some (5, true) },
    { dst := some 7, op := .bini .leq (.t 6) (.c (.int .i64 3)), guard := some (5, true) },
    { dst := some 8, op := .pick (.t 5) (.t 7) (.c (.bool false)) },
    { dst := some 2, op := .mov (.t 8) }])
  (.ret)))) }
/-- frustum/assemble.Count -/
def p15 : PFn := { nparams := 2, ntmps := 21, nobjs := 0, pure := true, keep := false, results := [⟨4, none⟩], body := (.cln (List.range 2) (.seq (.reg [{ dst := some 4, op := .mov (.c (.int .i64 0)) }])
  (.seq (.block 0 (.seq (.reg [{ dst := some 6, op := .mov (.t 1) },
    { dst := some 7, op := .bini .lss (.t 6) (.c (.int .i64 0)) },
    { dst := some 8, op := .mov (.t 7) },
    { dst := some 9, op := .mov (.t 0), guard := some (8, false) },
    { dst := some 10, op := .call (.c (.fn 17 [] [])) [.t 9], guard := some (8, false) },
    { dst := some 11, op := .notb (.t 10), guard := some (8, false) },
    { dst := some 12, op := .pick (.t 8) (.c (.bool true)) (.t 11) },
    { dst := some 5, op := .mov (.t 12) }])
  (.cond (.t 5) (.seq (.reg [{ dst := some 4, op := .mov (.c (.int .i64 0)) }])
  (.ret)) (.seq (.reg [{ dst := some 14, op := .mov (.t 0) },
    { dst := some 15, op := .bini .eql (.t 14) (.c (.int .i64 1)) },
    { dst := some 13, op := .mov (.t 15) }])
  (.cond (.t 13) (.seq (.reg [{ dst := some 16, op := .mov (.t 1) },
    { dst := some 17, op := .bini .quo (.t 16) (.c (.int .i64 3)) },
    { dst := some 4, op := .mov (.t 17) }])
  (.ret)) (.skip))))))
  (.cln [1] (.seq (.reg [{ dst := some 18, op := .mov (.t 1) },
    { dst := some 19, op := .bini .sub (.t 18) (.c (.int .i64 2)) },
    { dst := some 20, op := .mx (.c (.int .i64 0)) [.t 19] },
    { dst := some 4, op := .mov (.t 20) }])
  (.ret)))))) }
/-- frustum/assemble.Triangle -/
def p10 : PFn := { nparams := 3, ntmps := 91, nobjs := 1, pure := true, keep := false, results := [⟨6, some (some 3)⟩, ⟨7, none⟩], body := (.cln (List.range 3) (.seq (.reg [{ dst := some 6, op := .alloc 0 (.agg [.int .i64 0, .int .i64 0, .int .i64 0]) },
    { dst := some 7, op := .mov (.c (.bool false)) }])
  (.seq (.seq (.reg [{ dst := some 8, op := .mov (.t 2) },
    { dst := some 9, op := .bini .lss (.t 8) (.c (.int .i64 0)) },
    { dst := some 10, op := .mov (.t 9) },
    { dst := some 11, op := .mov (.t 2), guard := some (10, false) },
    { dst := some 12, op := .mov (.t 0), guard := some (10, false) },
    { dst := some 13, op := .mov (.t 1), guard := some (10, false) },
    { dst := some 14, op := .lenl (.t 13), guard := some (10, false) },
    { dst := some 15, op := .call (.c (.fn 15 [] [])) [.t 12, .t 14], guard := some (10, false) },
    { dst := some 16, op := .bini .geq (.t 11) (.t 15), guard := some (10, false) },
    { dst := some 17, op := .pick (.t 10) (.c (.bool true)) (.t 16) }])
  (.cond (.t 17) (.seq (.reg [{ dst := some 18, op := .build [.int .i64 0, .int .i64 0, .int .i64 0] [] },
    { dst := none, op := .store (some 3) (.t 6) (.t 18) },
    { dst := some 7, op := .mov (.c (.bool false)) }])
  (.ret)) (.skip)))
  (.cln [0, 1, 2, 6] (.seq (.block 0 (.seq (.reg [{ dst := some 20, op := .mov (.t 0) },
    { dst := some 21, op := .bini .eql (.t 20) (.c (.int .i64 1)) },
    { dst := some 19, op := .mov (.t 21) }])
  (.cond (.t 19) (.seq (.regd [{ ix := 0, o := { dst := some 22, op := .mov (.t 1) }, isC := false, anc := [], chk := [] },
    { ix := 1, o := { dst := some 23, op := .mov (.t 2) }, isC := false, anc := [], chk := [] },
    { ix := 2, o := { dst := some 24, op := .bini .mul (.c (.int .i64 3)) (.t 23) }, isC := false, anc := [1], chk := [] },
    { ix := 3, o := { dst := some 25, op := .iaddr 1 (.t 22) (.t 24) }, isC := false, anc := [0, 1, 2], chk := [] },
    { ix := 4, o := { dst := some 26, op := .load none (.t 25) }, isC := false, anc := [0, 1, 2, 3], chk := [] },
    { ix := 5, o := { dst := some 27, op := .mov (.t 1) }, isC := false, anc := [], chk := [] },
    { ix := 6, o := { dst := some 28, op := .mov (.t 2) }, isC := false, anc := [], chk := [] },
    { ix := 7, o := { dst := some 29, op := .bini .mul (.c (.int .i64 3)) (.t 28) }, isC := false, anc := [6], chk := [] },
    { ix := 8, o := { dst := some 30, op := .bini .add (.t 29) (.c (.int .i64 1)) }, isC := false, anc := [6, 7], chk := [] },
    { ix := 9, o := { dst := some 31, op := .iaddr 1 (.t 27) (.t 30) }, isC := false, anc := [5, 6, 7, 8], chk := [] },
    { ix := 10, o := { dst := some 32, op := .load none (.t 31) }, isC := false, anc := [5, 6, 7, 8, 9], chk := [] },
    { ix := 11, o := { dst := some 33, op := .mov (.t 1) }, isC := false, anc := [], chk := [] },
    { ix := 12, o := { dst := some 34, op := .mov (.t 2) }, isC := false, anc := [], chk := [] },
    { ix := 13, o := { dst := some 35, op := .bini .mul (.c (.int .i64 3)) (.t 34) }, isC := false, anc := [12], chk := [] },
    { ix := 14, o := { dst := some 36, op := .bini .add (.t 35) (.c (.int .i64 2)) }, isC := false, anc := [12, 13], chk := [] },
    { ix := 15, o := { dst := some 37, op := .iaddr 1 (.t 33) (.t 36) }, isC := false, anc := [11, 12, 13, 14], chk := [] },
    { ix := 16, o := { dst := some 38, op := .load none (.t 37) }, isC := false, anc := [11, 12, 13, 14, 15], chk := [] },
    { ix := 17, o := { dst := some 39, op := .build [.int .i64 0, .int .i64 0, .int .i64 0] [(0, 1, .t 26), (1, 1, .t 32), (2, 1, .t 38)] }, isC := false, anc := [0, 1, 2, 3, 4, 5, 6, 7, 8, 9, 10, 11, 12, 13, 14, 15, 16], chk := [] },
    { ix := 18, o := { dst := none, op := .store (some 3) (.t 6) (.t 39) }, isC := true, anc := [0, 1, 2, 3, 4, 5, 6, 7, 8, 9, 10, 11, 12, 13, 14, 15, 16, 17], chk := [] },
    { ix := 19, o := { dst := some 7, op := .mov (.c (.bool true)) }, isC := false, anc := [0, 1, 2, 3, 4, 5, 6, 7, 8, 9, 10, 11, 12, 13, 14, 15, 16, 17, 18], chk := [] }] [0, 1, 2, 3, 4, 5, 6, 7, 8, 9, 10, 11, 12, 13, 14, 15, 16, 17, 18, 19] 40)
  (.ret)) (.seq (.reg [{ dst := some 41, op := .mov (.t 0) },
    { dst := some 42, op := .bini .eql (.t 41) (.c (.int .i64 3)) },
    { dst := some 40, op := .mov (.t 42) }])
  (.cond (.t 40) (.seq (.regd [{ ix := 0, o := { dst := some 43, op := .mov (.t 1) }, isC := false, anc := [], chk := [] },
    { ix := 1, o := { dst := some 44, op := .iaddr 1 (.t 43) (.c (.int .i64 0)) }, isC := false, anc := [0], chk := [] },
    { ix := 2, o := { dst := some 45, op := .load none (.t 44) }, isC := false, anc := [0, 1], chk := [] },
    { ix := 3, o := { dst := some 46, op := .mov (.t 1) }, isC := false, anc := [], chk := [] },
    { ix := 4, o := { dst := some 47, op := .mov (.t 2) }, isC := false, anc := [], chk := [] },
    { ix := 5, o := { dst := some 48, op := .bini .add (.t 47) (.c (.int .i64 1)) }, isC := false, anc := [4], chk := [] },
    { ix := 6, o := { dst := some 49, op := .iaddr 1 (.t 46) (.t 48) }, isC := false, anc := [3, 4, 5], chk := [] },
    { ix := 7, o := { dst := some 50, op := .load none (.t 49) }, isC := false, anc := [3, 4, 5, 6], chk := [] },
    { ix := 8, o := { dst := some 51, op := .mov (.t 1) }, isC := false, anc := [], chk := [] },
    { ix := 9, o := { dst := some 52, op := .mov (.t 2) }, isC := false, anc := [], chk := [] },
    { ix := 10, o := { dst := some 53, op := .bini .add (.t 52) (.c (.int .i64 2)) }, isC := false, anc := [9], chk := [] },
    { ix := 11, o := { dst := some 54, op := .iaddr 1 (.t 51) (.t 53) }, isC := false, anc := [8, 9, 10], chk := [] },
    { ix := 12, o := { dst := some 55, op := .load none (.t 54) }, isC := false, anc := [8, 9, 10, 11], chk := [] },
    { ix := 13, o := { dst := some 56, op := .build [.int .i64 0, .int .i64 0, .int .i64 0] [(0, 1, .t 45), (1, 1, .t 50), (2, 1, .t 55)] }, isC := false, anc := [0, 1, 2, 3, 4, 5, 6, 7, 8, 9, 10, 11, 12], chk := [] },
    { ix := 14, o := { dst := none, op := .store (some 3) (.t 6) (.t 56) }, isC := true, anc := [0, 1, 2, 3, 4, 5, 6, 7, 8, 9, 10, 11, 12, 13], chk := [] },
    { ix := 15, o := { dst := some 7, op := .mov (.c (.bool true)) }, isC := false, anc := [0, 1, 2, 3, 4, 5, 6, 7, 8, 9, 10, 11, 12, 13, 14], chk := [] }] [0, 1, 2, 3, 4, 5, 6, 7, 8, 9, 10, 11, 12, 13, 14, 15] 57)
  (.ret)) (.seq (.reg [{ dst := some 58, op := .mov (.t 2) },
    { dst := some 59, op := .bini .rem (.t 58) (.c (.int .i64 2)) },
    { dst := some 60, op := .bini .eql (.t 59) (.c (.int .i64 1)) },
    { dst := some 57, op := .mov (.t 60) }])
  (.cond (.t 57) (.seq (.regd [{ ix := 0, o := { dst := some 61, op := .mov (.t 1) }, isC := false, anc := [], chk := [] },
    { ix := 1, o := { dst := some 62, op := .mov (.t 2) }, isC := false, anc := [], chk := [] },
    { ix := 2, o := { dst := some 63, op := .iaddr 1 (.t 61) (.t 62) }, isC := false, anc := [0, 1], chk := [] },
    { ix := 3, o := { dst := some 64, op := .load none (.t 63) }, isC := false, anc := [0, 1, 2], chk := [] },
    { ix := 4, o := { dst := some 65, op := .mov (.t 1) }, isC := false, anc := [], chk := [] },
    { ix := 5, o := { dst := some 66, op := .mov (.t 2) }, isC := false, anc := [], chk := [] },
    { ix := 6, o := { dst := some 67, op := .bini .add (.t 66) (.c (.int .i64 2)) }, isC := false, anc := [5], chk := [] },
    { ix := 7, o := { dst := some 68, op := .iaddr 1 (.t 65) (.t 67) }, isC := false, anc := [4, 5, 6], chk := [] },
    { ix := 8, o := { dst := some 69, op := .load none (.t 68) }, isC := false, anc := [4, 5, 6, 7], chk := [] },
    { ix := 9, o := { dst := some 70, op := .mov (.t 1) }, isC := false, anc := [], chk := [] },
    { ix := 10, o := { dst := some 71, op := .mov (.t 2) }, isC := false, anc := [], chk := [] },
    { ix := 11, o := { dst := some 72, op := .bini .add (.t 71) (.c (.int .i64 1)) }, isC := false, anc := [10], chk := [] },
    { ix := 12, o := { dst := some 73, op := .iaddr 1 (.t 70) (.t 72) }, isC := false, anc := [9, 10, 11], chk := [] },
    { ix := 13, o := { dst := some 74, op := .load none (.t 73) }, isC := false, anc := [9, 10, 11, 12], chk := [] },
    { ix := 14, o := { dst := some 75, op := .build [.int .i64 0, .int .i64 0, .int .i64 0] [(0, 1, .t 64), (1, 1, .t 69), (2, 1, .t 74)] }, isC := false, anc := [0, 1, 2, 3, 4, 5, 6, 7, 8, 9, 10, 11, 12, 13], chk := [] },
    { ix := 15, o := { dst := none, op := .store (some 3) (.t 6) (.t 75) }, isC := true, anc := [0, 1, 2, 3, 4, 5, 6, 7, 8, 9, 10, 11, 12, 13, 14], chk := [] },
    { ix := 16, o := { dst := some 7, op := .mov (.c (.bool true)) }, isC := false, anc := [0, 1, 2, 3, 4, 5, 6, 7, 8, 9, 10, 11, 12, 13, 14, 15], chk := [] }] [0, 1, 2, 3, 4, 5, 6, 7, 8, 9, 10, 11, 12, 13, 14, 15, 16] 76)
  (.ret)) (.skip))))))))
  (.cln [1, 2, 6] (.seq (.regd [{ ix := 0, o := { dst := some 76, op := .mov (.t 1) }, isC := false, anc := [], chk := [] },
    { ix := 1, o := { dst := some 77, op := .mov (.t 2) }, isC := false, anc := [], chk := [] },
    { ix := 2, o := { dst := some 78, op := .iaddr 1 (.t 76) (.t 77) }, isC := false, anc := [0, 1], chk := [] },
    { ix := 3, o := { dst := some 79, op := .load none (.t 78) }, isC := false, anc := [0, 1, 2], chk := [] },
    { ix := 4, o := { dst := some 80, op := .mov (.t 1) }, isC := false, anc := [], chk := [] },
    { ix := 5, o := { dst := some 81, op := .mov (.t 2) }, isC := false, anc := [], chk := [] },
    { ix := 6, o := { dst := some 82, op := .bini .add (.t 81) (.c (.int .i64 1)) }, isC := false, anc := [5], chk := [] },
    { ix := 7, o := { dst := some 83, op := .iaddr 1 (.t 80) (.t 82) }, isC := false, anc := [4, 5, 6], chk := [] },
    { ix := 8, o := { dst := some 84, op := .load none (.t 83) }, isC := false, anc := [4, 5, 6, 7], chk := [] },
    { ix := 9, o := { dst := some 85, op := .mov (.t 1) }, isC := false, anc := [], chk := [] },
    { ix := 10, o := { dst := some 86, op := .mov (.t 2) }, isC := false, anc := [], chk := [] },
    { ix := 11, o := { dst := some 87, op := .bini .add (.t 86) (.c (.int .i64 2)) }, isC := false, anc := [10], chk := [] },
    { ix := 12, o := { dst := some 88, op := .iaddr 1 (.t 85) (.t 87) }, isC := false, anc := [9, 10, 11], chk := [] },
    { ix := 13, o := { dst := some 89, op := .load none (.t 88) }, isC := false, anc := [9, 10, 11, 12], chk := [] },
    { ix := 14, o := { dst := some 90, op := .build [.int .i64 0, .int .i64 0, .int .i64 0] [(0, 1, .t 79), (1, 1, .t 84), (2, 1, .t 89)] }, isC := false, anc := [0, 1, 2, 3, 4, 5, 6, 7, 8, 9, 10, 11, 12, 13], chk := [] },
    { ix := 15, o := { dst := none, op := .store (some 3) (.t 6) (.t 90) }, isC := true, anc := [0, 1, 2, 3, 4, 5, 6, 7, 8, 9, 10, 11, 12, 13, 14], chk := [] },
    { ix := 16, o := { dst := some 7, op := .mov (.c (.bool true)) }, isC := false, anc := [0, 1, 2, 3, 4, 5, 6, 7, 8, 9, 10, 11, 12, 13, 14, 15], chk := [] }] [0, 1, 2, 3, 4, 5, 6, 7, 8, 9, 10, 11, 12, 13, 14, 15, 16] 91)
  (.ret)))))))) }
/-- frustum/frustumref16.Valid -/
def p18 : PFn := { nparams := 1, ntmps := 13, nobjs := 0, pure := true, keep := false, results := [⟨2, none⟩], body := (.cln (List.range 1) (.seq (.reg [{ dst := some 2, op := .mov (.c (.bool false)) }])
  (.seq (.reg [{ dst := some 3, op := .mov (.t 0) },
    { dst := some 4, op := .bini .eql (.t 3) (.c (.int .i64 1)) },
    { dst := some 5, op := .mov (.t 4) },
    { dst := some 6, op := .mov (.t 0), guard := some (5, false) },
    { dst := some 7, op := .bini .eql (.t 6) (.c (.int .i64 2)), guard := some (5, false) },
    { dst := some 8, op := .pick (.t 5) (.c (.bool true)) (.t 7) },
    { dst := some 9, op := .mov (.t 8) },
    { dst := some 10, op := .mov (.t 0), guard := some (9, false) },
    { dst := some 11, op := .bini .eql (.t 10) (.c (.int .i64 3)), guard := some (9, false) },
    { dst := some 12, op := .pick (.t 9) (.c (.bool true)) (.t 11) },
    { dst := some 2, op := .mov (.t 12) }])
  (.ret)))) }
/-- frustum/frustumref16.Count -/
def p16 : PFn := { nparams := 2, ntmps := 19, nobjs := 0, pure := true, keep := false, results := [⟨4, none⟩], body := (.cln (List.range 2) (.seq (.reg [{ dst := some 4, op := .mov (.c (.int .i64 0)) }])
  (.seq (.seq (.reg [{ dst := some 5, op := .mov (.t 1) },
    { dst := some 6, op := .bini .lss (.t 5) (.c (.int .i64 0)) },
    { dst := some 7, op := .mov (.t 6) },
    { dst := some 8, op := .mov (.t 0), guard := some (7, false) },
    { dst := some 9, op := .call (.c (.fn 18 [] [])) [.t 8], guard := some (7, false) },
    { dst := some 10, op := .notb (.t 9), guard := some (7, false) },
    { dst := some 11, op := .pick (.t 7) (.c (.bool true)) (.t 10) }])
  (.cond (.t 11) (.seq (.reg [{ dst := some 4, op := .mov (.c (.int .i64 0)) }])
  (.ret)) (.skip)))
  (.cln [0, 1] (.seq (.seq (.reg [{ dst := some 12, op := .mov (.t 0) },
    { dst := some 13, op := .bini .eql (.t 12) (.c (.int .i64 1)) }])
  (.cond (.t 13) (.seq (.reg [{ dst := some 14, op := .mov (.t 1) },
    { dst := some 15, op := .bini .quo (.t 14) (.c (.int .i64 3)) },
    { dst := some 4, op := .mov (.t 15) }])
  (.ret)) (.skip)))
  (.cln [1] (.seq (.reg [{ dst := some 16, op := .mov (.t 1) },
    { dst := some 17, op := .bini .sub (.t 16) (.c (.int .i64 2)) },
    { dst := some 18, op := .mx (.c (.int .i64 0)) [.t 17] },
    { dst := some 4, op := .mov (.t 18) }])
  (.ret)))))))) }
/-- frustum/frustumref16.corners -/
def p28 : PFn := { nparams := 2, ntmps := 39, nobjs := 1, pure := true, keep := false, results := [⟨4, some (some 3)⟩], body := (.cln (List.range 2) (.seq (.reg [{ dst := some 4, op := .alloc 0 (.agg [.int .i64 0, .int .i64 0, .int .i64 0]) }])
  (.seq (.seq (.reg [{ dst := some 5, op := .mov (.t 0) }])
  (.block 0 (.seq (.reg [{ dst := some 7, op := .bini .eql (.t 5) (.c (.int .i64 1)) },
    { dst := some 6, op := .mov (.t 7) }])
  (.cond (.t 6) (.seq (.reg [{ dst := some 8, op := .mov (.t 1) },
    { dst := some 9, op := .bini .mul (.c (.int .i64 3)) (.t 8) },
    { dst := some 10, op := .mov (.t 1) },
    { dst := some 11, op := .bini .mul (.c (.int .i64 3)) (.t 10) },
    { dst := some 12, op := .bini .add (.t 11) (.c (.int .i64 1)) },
    { dst := some 13, op := .mov (.t 1) },
    { dst := some 14, op := .bini .mul (.c (.int .i64 3)) (.t 13) },
    { dst := some 15, op := .bini .add (.t 14) (.c (.int .i64 2)) },
    { dst := some 16, op := .build [.int .i64 0, .int .i64 0, .int .i64 0] [(0, 1, .t 9), (1, 1, .t 12), (2, 1, .t 15)] },
    { dst := none, op := .store (some 3) (.t 4) (.t 16) }])
  (.ret)) (.seq (.reg [{ dst := some 18, op := .bini .eql (.t 5) (.c (.int .i64 3)) },
    { dst := some 17, op := .mov (.t 18) }])
  (.cond (.t 17) (.seq (.reg [{ dst := some 19, op := .mov (.t 1) },
    { dst := some 20, op := .bini .add (.t 19) (.c (.int .i64 1)) },
    { dst := some 21, op := .mov (.t 1) },
    { dst := some 22, op := .bini .add (.t 21) (.c (.int .i64 2)) },
    { dst := some 23, op := .build [.int .i64 0, .int .i64 0, .int .i64 0] [(0, 1, .c (.int .i64 0)), (1, 1, .t 20), (2, 1, .t 22)] },
    { dst := none, op := .store (some 3) (.t 4) (.t 23) }])
  (.ret)) (.skip)))))))
  (.cln [1, 4] (.seq (.seq (.reg [{ dst := some 24, op := .mov (.t 1) },
    { dst := some 25, op := .bini .rem (.t 24) (.c (.int .i64 2)) },
    { dst := some 26, op := .bini .eql (.t 25) (.c (.int .i64 0)) }])
  (.cond (.t 26) (.seq (.reg [{ dst := some 27, op := .mov (.t 1) },
    { dst := some 28, op := .mov (.t 1) },
    { dst := some 29, op := .bini .add (.t 28) (.c (.int .i64 1)) },
    { dst := some 30, op := .mov (.t 1) },
    { dst := some 31, op := .bini .add (.t 30) (.c (.int .i64 2)) },
    { dst := some 32, op := .build [.int .i64 0, .int .i64 0, .int .i64 0] [(0, 1, .t 27), (1, 1, .t 29), (2, 1, .t 31)] },
    { dst := none, op := .store (some 3) (.t 4) (.t 32) }])
  (.ret)) (.skip)))
  (.cln [1, 4] (.seq (.reg [{ dst := some 33, op := .mov (.t 1) },
    { dst := some 34, op := .mov (.t 1) },
    { dst := some 35, op := .bini .add (.t 34) (.c (.int .i64 2)) },
    { dst := some 36, op := .mov (.t 1) },
    { dst := some 37, op := .bini .add (.t 36) (.c (.int .i64 1)) },
    { dst := some 38, op := .build [.int .i64 0, .int .i64 0, .int .i64 0] [(0, 1, .t 33), (1, 1, .t 35), (2, 1, .t 37)] },
    { dst := none, op := .store (some 3) (.t 4) (.t 38) }])
  (.ret)))))))) }
/-- frustum/frustumref16.Triangle -/
def p11 : PFn := { nparams := 3, ntmps := 39, nobjs := 2, pure := true, keep := false, results := [⟨6, some (some 3)⟩, ⟨7, none⟩], body := (.cln (List.range 3) (.seq (.reg [{ dst := some 6, op := .alloc 0 (.agg [.int .i64 0, .int .i64 0, .int .i64 0]) },
    { dst := some 7, op := .mov (.c (.bool false)) }])
  (.seq (.seq (.reg [{ dst := some 9, op := .mov (.t 2) },
    { dst := some 10, op := .bini .lss (.t 9) (.c (.int .i64 0)) },
    { dst := some 11, op := .mov (.t 10) },
    { dst := some 12, op := .mov (.t 2), guard := some (11, false) },
    { dst := some 13, op := .mov (.t 0), guard := some (11, false) },
    { dst := some 14, op := .mov (.t 1), guard := some (11, false) },
    { dst := some 15, op := .lenl (.t 14), guard := some (11, false) },
    { dst := some 16, op := .call (.c (.fn 16 [] [])) [.t 13, .t 15], guard := some (11, false) },
    { dst := some 17, op := .bini .geq (.t 12) (.t 16), guard := some (11, false) },
    { dst := some 18, op := .pick (.t 11) (.c (.bool true)) (.t 17) }])
  (.cond (.t 18) (.seq (.reg [{ dst := some 19, op := .build [.int .i64 0, .int .i64 0, .int .i64 0] [] },
    { dst := none, op := .store (some 3) (.t 6) (.t 19) },
    { dst := some 7, op := .mov (.c (.bool false)) }])
  (.ret)) (.skip)))
  (.cln [0, 1, 2, 6] (.seq (.reg [{ dst := some 20, op := .mov (.t 0) },
    { dst := some 21, op := .mov (.t 2) },
    { dst := some 22, op := .call (.c (.fn 28 [] [])) [.t 20, .t 21] },
    { dst := some 8, op := .alloc 1 (.agg [.int .i64 0, .int .i64 0, .int .i64 0]) },
    { dst := none, op := .store (some 3) (.t 8) (.t 22) }])
  (.seq (.regd [{ ix := 0, o := { dst := some 23, op := .mov (.t 1) }, isC := false, anc := [], chk := [] },
    { ix := 1, o := { dst := some 24, op := .iaddra 3 1 (.t 8) (.c (.int .i64 0)) }, isC := false, anc := [], chk := [] },
    { ix := 2, o := { dst := some 25, op := .load none (.t 24) }, isC := false, anc := [1], chk := [] },
    { ix := 3, o := { dst := some 26, op := .iaddr 1 (.t 23) (.t 25) }, isC := false, anc := [0, 1, 2], chk := [] },
    { ix := 4, o := { dst := some 27, op := .load none (.t 26) }, isC := false, anc := [0, 1, 2, 3], chk := [] },
    { ix := 5, o := { dst := some 28, op := .mov (.t 1) }, isC := false, anc := [], chk := [] },
    { ix := 6, o := { dst := some 29, op := .iaddra 3 1 (.t 8) (.c (.int .i64 1)) }, isC := false, anc := [], chk := [] },
    { ix := 7, o := { dst := some 30, op := .load none (.t 29) }, isC := false, anc := [6], chk := [] },
    { ix := 8, o := { dst := some 31, op := .iaddr 1 (.t 28) (.t 30) }, isC := false, anc := [5, 6, 7], chk := [] },
    { ix := 9, o := { dst := some 32, op := .load none (.t 31) }, isC := false, anc := [5, 6, 7, 8], chk := [] },
    { ix := 10, o := { dst := some 33, op := .mov (.t 1) }, isC := false, anc := [], chk := [] },
    { ix := 11, o := { dst := some 34, op := .iaddra 3 1 (.t 8) (.c (.int .i64 2)) }, isC := false, anc := [], chk := [] },
    { ix := 12, o := { dst := some 35, op := .load none (.t 34) }, isC := false, anc := [11], chk := [] },
    { ix := 13, o := { dst := some 36, op := .iaddr 1 (.t 33) (.t 35) }, isC := false, anc := [10, 11, 12], chk := [] },
    { ix := 14, o := { dst := some 37, op := .load none (.t 36) }, isC := false, anc := [10, 11, 12, 13], chk := [] },
    { ix := 15, o := { dst := some 38, op := .build [.int .i64 0, .int .i64 0, .int .i64 0] [(0, 1, .t 27), (1, 1, .t 32), (2, 1, .t 37)] }, isC := false, anc := [0, 1, 2, 3, 4, 5, 6, 7, 8, 9, 10, 11, 12, 13, 14], chk := [] },
    { ix := 16, o := { dst := none, op := .store (some 3) (.t 6) (.t 38) }, isC := true, anc := [0, 1, 2, 3, 4, 5, 6, 7, 8, 9, 10, 11, 12, 13, 14, 15], chk := [] },
    { ix := 17, o := { dst := some 7, op := .mov (.c (.bool true)) }, isC := false, anc := [0, 1, 2, 3, 4, 5, 6, 7, 8, 9, 10, 11, 12, 13, 14, 15, 16], chk := [] }] [0, 1, 2, 3, 4, 5, 6, 7, 8, 9, 10, 11, 12, 13, 14, 15, 16, 17] 39)
  (.ret))))))) }
def p21l0 : PC := .loop (.cln [0, 3, 4, 7, 8, 9] (.seq (.reg [{ dst := some 10, op := .bini .lss (.t 9) (.t 8) }])
  (.seq (.cond (.t 10) (.skip) (.exit 0))
  (.cln [0, 3, 4, 7, 8, 9] (.seq (.block 1 (.seq (.reg [{ dst := some 11, op := .mov (.t 9) },
    { dst := some 12, op := .iaddr 1 (.t 7) (.t 9) },
    { dst := some 13, op := .load none (.t 12) },
    { dst := some 5, op := .mov (.t 11) },
    { dst := some 6, op := .mov (.t 13) }])
  (.seq (.seq (.reg [{ dst := some 14, op := .mov (.t 6) },
    { dst := some 15, op := .bini .geq (.t 14) (.c (.int .i64 0)) }])
  (.cond (.t 15) (.reg [{ dst := some 16, op := .mov (.t 4) },
    { dst := some 17, op := .mov (.t 6) },
    { dst := some 18, op := .bsl [.int .i64 0] [(0, .t 17)] },
    { dst := some 19, op := .append 2 true 1 8 (.t 16) (.t 18) },
    { dst := some 4, op := .mov (.t 19) }]) (.skip)))
  (.cln [0, 3, 4, 5, 6, 7, 8, 9] (.seq (.reg [{ dst := some 20, op := .mov (.t 6) },
    { dst := some 21, op := .bini .lss (.t 20) (.c (.int .i64 0)) },
    { dst := some 22, op := .mov (.t 21) },
    { dst := some 23, op := .mov (.t 5), guard := some (22, false) },
    { dst := some 24, op := .mov (.t 0), guard := some (22, false) },
    { dst := some 25, op := .lenl (.t 24), guard := some (22, false) },
    { dst := some 26, op := .bini .sub (.t 25) (.c (.int .i64 1)), guard := some (22, false) },
    { dst := some 27, op := .bini .eql (.t 23) (.t 26), guard := some (22, false) },
    { dst := some 28, op := .pick (.t 22) (.c (.bool true)) (.t 27) },
    { dst := some 29, op := .mov (.t 28) },
    { dst := some 30, op := .mov (.t 4), guard := some (29, true) },
    { dst := some 31, op := .lenl (.t 30), guard := some (29, true) },
    { dst := some 32, op := .bini .gtr (.t 31) (.c (.int .i64 0)), guard := some (29, true) },
    { dst := some 33, op := .pick (.t 29) (.t 32) (.c (.bool false)) }])
  (.cond (.t 33) (.seq (.reg [{ dst := some 34, op := .mov (.t 3) },
    { dst := some 35, op := .frz (.t 4) },
    { dst := some 36, op := .bsl [.vs .nil []] [(0, .t 35)] },
    { dst := some 37, op := .append 3 true 1 24 (.t 34) (.t 36) },
    { dst := some 3, op := .mov (.t 37) }])
  (.reg [{ dst := some 4, op := .vec 1 true 1 }])) (.skip)))))))
  (.cln [0, 3, 4, 7, 8, 9] (.reg [{ dst := some 38, op := .bini .add (.t 9) (.c (.int .i64 1)) },
    { dst := some 9, op := .mov (.t 38) }])))))))
/-- frustum/assemble.Runs -/
def p21 : PFn := { nparams := 1, ntmps := 40, nobjs := 4, pure := true, keep := false, results := [⟨2, none⟩], body := (.cln (List.range 1) (.seq (.reg [{ dst := some 2, op := .mov (.c (.vs .nil [])) }])
  (.seq (.reg [{ dst := some 3, op := .vec 0 true 1 }])
  (.seq (.reg [{ dst := some 4, op := .vec 1 true 1 }])
  (.seq (.seq (.reg [{ dst := some 7, op := .mov (.t 0) },
    { dst := some 8, op := .lenl (.t 7) },
    { dst := some 9, op := .mov (.c (.int .i64 0)) }])
  (.block 0 (p21l0)))
  (.cln [3] (.seq (.reg [{ dst := some 39, op := .frz (.t 3) },
    { dst := some 2, op := .mov (.t 39) }])
  (.ret)))))))) }
def p13l1 : PC := .loop (.cln [0, 5, 7, 12, 13, 14, 21, 22] (.seq (.reg [{ dst := some 23, op := .bini .lss (.t 22) (.t 21) }])
  (.seq (.cond (.t 23) (.skip) (.exit 2))
  (.cln [0, 5, 7, 12, 13, 14, 21, 22] (.seq (.block 3 (.seq (.reg [{ dst := some 24, op := .mov (.t 22) },
    { dst := some 8, op := .mov (.t 24) }])
  (.seq (.reg [{ dst := some 26, op := .mov (.t 0) },
    { dst := some 27, op := .mov (.t 7) },
    { dst := some 28, op := .mov (.t 8) },
    { dst := some 29, op := .call (.c (.fn 10 [] [])) [.t 26, .t 27, .t 28] },
    { dst := some 25, op := .mov (.t 29) },
    { dst := some 30, op := .extract (.t 25) 0 },
    { dst := some 31, op := .extract (.t 25) 1 },
    { dst := some 9, op := .alloc 1 (.agg [.int .i64 0, .int .i64 0, .int .i64 0]) },
    { dst := none, op := .store (some 3) (.t 9) (.t 30) },
    { dst := some 10, op := .mov (.t 31) }])
  (.reg [{ dst := some 32, op := .mov (.t 5) },
    { dst := some 33, op := .load (some 3) (.t 9) },
    { dst := some 34, op := .bsl [.agg [.int .i64 0, .int .i64 0, .int .i64 0]] [(0, .t 33)] },
    { dst := some 35, op := .append 2 true 3 24 (.t 32) (.t 34) },
    { dst := some 5, op := .mov (.t 35) }]))))
  (.cln [0, 5, 7, 12, 13, 14, 21, 22] (.reg [{ dst := some 36, op := .bini .add (.t 22) (.c (.int .i64 1)) },
    { dst := some 22, op := .mov (.t 36) }])))))))
def p13l0 : PC := .loop (.cln [0, 5, 12, 13, 14] (.seq (.reg [{ dst := some 15, op := .bini .lss (.t 14) (.t 13) }])
  (.seq (.cond (.t 15) (.skip) (.exit 0))
  (.cln [0, 5, 12, 13, 14] (.seq (.block 1 (.seq (.reg [{ dst := some 16, op := .iaddr 1 (.t 12) (.t 14) },
    { dst := some 17, op := .load none (.t 16) },
    { dst := some 7, op := .mov (.t 17) }])
  (.seq (.reg [{ dst := some 18, op := .mov (.t 0) },
    { dst := some 19, op := .mov (.t 7) },
    { dst := some 20, op := .lenl (.t 19) },
    { dst := some 21, op := .call (.c (.fn 15 [] [])) [.t 18, .t 20] },
    { dst := some 22, op := .mov (.c (.int .i64 0)) }])
  (.block 2 (p13l1)))))
  (.cln [0, 5, 12, 13, 14] (.reg [{ dst := some 37, op := .bini .add (.t 14) (.c (.int .i64 1)) },
    { dst := some 14, op := .mov (.t 37) }])))))))
/-- frustum/assemble.Triangles -/
def p13 : PFn := { nparams := 2, ntmps := 39, nobjs := 3, pure := true, keep := false, results := [⟨4, none⟩], body := (.cln (List.range 2) (.seq (.reg [{ dst := some 4, op := .mov (.c (.vs .nil [])) }])
  (.seq (.reg [{ dst := some 5, op := .vec 0 true 3 }])
  (.seq (.seq (.reg [{ dst := some 11, op := .mov (.t 1) },
    { dst := some 12, op := .call (.c (.fn 21 [] [])) [.t 11] },
    { dst := some 13, op := .lenl (.t 12) },
    { dst := some 14, op := .mov (.c (.int .i64 0)) }])
  (.block 0 (p13l0)))
  (.cln [5] (.seq (.reg [{ dst := some 38, op := .frz (.t 5) },
    { dst := some 4, op := .mov (.t 38) }])
  (.ret))))))) }
def p22l0 : PC := .loop (.cln [0, 3, 4, 5] (.seq (.seq (.reg [{ dst := some 6, op := .mov (.t 5) },
    { dst := some 7, op := .mov (.t 0) },
    { dst := some 8, op := .lenl (.t 7) },
    { dst := some 9, op := .bini .leq (.t 6) (.t 8) }])
  (.cond (.t 9) (.skip) (.exit 0)))
  (.cln [0, 3, 4, 5] (.seq (.block 1 (.seq (.seq (.reg [{ dst := some 12, op := .mov (.t 5) },
    { dst := some 13, op := .mov (.t 0) },
    { dst := some 14, op := .lenl (.t 13) },
    { dst := some 15, op := .bini .lss (.t 12) (.t 14) },
    { dst := some 16, op := .mov (.t 15) },
    { dst := some 17, op := .mov (.t 0), guard := some (16, true) },
    { dst := some 18, op := .mov (.t 5), guard := some (16, true) },
    { dst := some 19, op := .iaddr 1 (.t 17) (.t 18), guard := some (16, true) },
    { dst := some 20, op := .load none (.t 19), guard := some (16, true) },
    { dst := some 21, op := .bini .geq (.t 20) (.c (.int .i64 0)), guard := some (16, true) },
    { dst := some 22, op := .pick (.t 16) (.t 21) (.c (.bool false)) }])
  (.cond (.t 22) (.seq (.reg [{ dst := some 23, op := .mov (.t 4) },
    { dst := some 24, op := .mov (.t 0) },
    { dst := some 25, op := .mov (.t 5) },
    { dst := some 26, op := .iaddr 1 (.t 24) (.t 25) },
    { dst := some 27, op := .load none (.t 26) },
    { dst := some 28, op := .bsl [.int .i64 0] [(0, .t 27)] },
    { dst := some 29, op := .append 2 true 1 8 (.t 23) (.t 28) },
    { dst := some 4, op := .mov (.t 29) }])
  (.exit 1)) (.skip)))
  (.cln [0, 3, 4, 5] (.seq (.seq (.reg [{ dst := some 30, op := .mov (.t 4) },
    { dst := some 31, op := .lenl (.t 30) },
    { dst := some 32, op := .bini .gtr (.t 31) (.c (.int .i64 0)) }])
  (.cond (.t 32) (.reg [{ dst := some 33, op := .mov (.t 3) },
    { dst := some 34, op := .frz (.t 4) },
    { dst := some 35, op := .bsl [.vs .nil []] [(0, .t 34)] },
    { dst := some 36, op := .append 3 true 1 24 (.t 33) (.t 35) },
    { dst := some 3, op := .mov (.t 36) }]) (.skip)))
  (.cln [0, 3, 5] (.reg [{ dst := some 4, op := .vec 1 true 1 }]))))))
  (.cln [0, 3, 4, 5] (.reg [{ dst := some 10, op := .mov (.t 5) },
    { dst := some 11, op := .bini .add (.t 10) (.c (.int .i64 1)) },
    { dst := some 5, op := .mov (.t 11) }]))))))
/-- frustum/frustumref16.Runs -/
def p22 : PFn := { nparams := 1, ntmps := 38, nobjs := 4, pure := true, keep := false, results := [⟨2, none⟩], body := (.cln (List.range 1) (.seq (.reg [{ dst := some 2, op := .mov (.c (.vs .nil [])) }])
  (.seq (.reg [{ dst := some 3, op := .vec 0 true 1 }])
  (.seq (.reg [{ dst := some 4, op := .vec 1 true 1 }])
  (.seq (.seq (.reg [{ dst := some 5, op := .mov (.c (.int .i64 0)) }])
  (.block 0 (p22l0)))
  (.cln [3] (.seq (.reg [{ dst := some 37, op := .frz (.t 3) },
    { dst := some 2, op := .mov (.t 37) }])
  (.ret)))))))) }
def p14l1 : PC := .loop (.cln [0, 5, 6, 7, 8] (.seq (.seq (.reg [{ dst := some 19, op := .mov (.t 8) },
    { dst := some 20, op := .mov (.t 0) },
    { dst := some 21, op := .mov (.t 6) },
    { dst := some 22, op := .mov (.t 7) },
    { dst := some 23, op := .iaddr 1 (.t 21) (.t 22) },
    { dst := some 24, op := .load none (.t 23) },
    { dst := some 25, op := .lenl (.t 24) },
    { dst := some 26, op := .call (.c (.fn 16 [] [])) [.t 20, .t 25] },
    { dst := some 27, op := .bini .lss (.t 19) (.t 26) }])
  (.cond (.t 27) (.skip) (.exit 2)))
  (.cln [0, 5, 6, 7, 8] (.seq (.block 3 (.seq (.reg [{ dst := some 31, op := .mov (.t 0) },
    { dst := some 32, op := .mov (.t 6) },
    { dst := some 33, op := .mov (.t 7) },
    { dst := some 34, op := .iaddr 1 (.t 32) (.t 33) },
    { dst := some 35, op := .load none (.t 34) },
    { dst := some 36, op := .mov (.t 8) },
    { dst := some 37, op := .call (.c (.fn 11 [] [])) [.t 31, .t 35, .t 36] },
    { dst := some 30, op := .mov (.t 37) },
    { dst := some 38, op := .extract (.t 30) 0 },
    { dst := some 39, op := .extract (.t 30) 1 },
    { dst := some 9, op := .alloc 1 (.agg [.int .i64 0, .int .i64 0, .int .i64 0]) },
    { dst := none, op := .store (some 3) (.t 9) (.t 38) },
    { dst := some 10, op := .mov (.t 39) }])
  (.reg [{ dst := some 40, op := .mov (.t 5) },
    { dst := some 41, op := .load (some 3) (.t 9) },
    { dst := some 42, op := .bsl [.agg [.int .i64 0, .int .i64 0, .int .i64 0]] [(0, .t 41)] },
    { dst := some 43, op := .append 2 true 3 24 (.t 40) (.t 42) },
    { dst := some 5, op := .mov (.t 43) }])))
  (.cln [0, 5, 6, 7, 8] (.reg [{ dst := some 28, op := .mov (.t 8) },
    { dst := some 29, op := .bini .add (.t 28) (.c (.int .i64 1)) },
    { dst := some 8, op := .mov (.t 29) }]))))))
def p14l0 : PC := .loop (.cln [0, 5, 6, 7] (.seq (.seq (.reg [{ dst := some 13, op := .mov (.t 7) },
    { dst := some 14, op := .mov (.t 6) },
    { dst := some 15, op := .lenl (.t 14) },
    { dst := some 16, op := .bini .lss (.t 13) (.t 15) }])
  (.cond (.t 16) (.skip) (.exit 0)))
  (.cln [0, 5, 6, 7] (.seq (.block 1 (.seq (.reg [{ dst := some 8, op := .mov (.c (.int .i64 0)) }])
  (.block 2 (p14l1))))
  (.cln [0, 5, 6, 7] (.reg [{ dst := some 17, op := .mov (.t 7) },
    { dst := some 18, op := .bini .add (.t 17) (.c (.int .i64 1)) },
    { dst := some 7, op := .mov (.t 18) }]))))))
/-- frustum/frustumref16.Triangles -/
def p14 : PFn := { nparams := 2, ntmps := 45, nobjs := 3, pure := true, keep := false, results := [⟨4, none⟩], body := (.cln (List.range 2) (.seq (.reg [{ dst := some 4, op := .mov (.c (.vs .nil [])) }])
  (.seq (.reg [{ dst := some 5, op := .vec 0 true 3 }])
  (.seq (.reg [{ dst := some 11, op := .mov (.t 1) },
    { dst := some 12, op := .call (.c (.fn 22 [] [])) [.t 11] },
    { dst := some 6, op := .mov (.t 12) }])
  (.seq (.seq (.reg [{ dst := some 7, op := .mov (.c (.int .i64 0)) }])
  (.block 0 (p14l0)))
  (.cln [5] (.seq (.reg [{ dst := some 44, op := .frz (.t 5) },
    { dst := some 4, op := .mov (.t 44) }])
  (.ret)))))))) }
def p12l0 : PC := .loop (.cln [0, 1, 5] (.seq (.seq (.reg [{ dst := some 11, op := .mov (.t 5) },
    { dst := some 12, op := .mov (.t 0) },
    { dst := some 13, op := .lenl (.t 12) },
    { dst := some 14, op := .bini .lss (.t 11) (.t 13) }])
  (.cond (.t 14) (.skip) (.exit 0)))
  (.cln [0, 1, 5] (.seq (.block 1 (.seq (.regd [{ ix := 0, o := { dst := some 17, op := .mov (.t 0) }, isC := false, anc := [], chk := [] },
    { ix := 1, o := { dst := some 18, op := .mov (.t 5) }, isC := false, anc := [], chk := [] },
    { ix := 2, o := { dst := some 19, op := .iaddr 3 (.t 17) (.t 18) }, isC := false, anc := [0, 1], chk := [] },
    { ix := 3, o := { dst := some 20, op := .load (some 3) (.t 19) }, isC := false, anc := [0, 1, 2], chk := [] },
    { ix := 4, o := { dst := some 21, op := .mov (.t 1) }, isC := false, anc := [], chk := [] },
    { ix := 5, o := { dst := some 22, op := .mov (.t 5) }, isC := false, anc := [], chk := [] },
    { ix := 6, o := { dst := some 23, op := .iaddr 3 (.t 21) (.t 22) }, isC := false, anc := [4, 5], chk := [] },
    { ix := 7, o := { dst := some 24, op := .load (some 3) (.t 23) }, isC := false, anc := [4, 5, 6], chk := [] },
    { ix := 8, o := { dst := some 25, op := .eq true (.parts [(0, 1, .ei), (1, 1, .ei), (2, 1, .ei)]) (.t 20) (.t 24) }, isC := false, anc := [0, 1, 2, 3, 4, 5, 6, 7], chk := [] }] [0, 1, 2, 3, 4, 5, 6, 7, 8] 26)
  (.cond (.t 25) (.seq (.reg [{ dst := some 4, op := .mov (.c (.bool false)) }])
  (.ret)) (.skip))))
  (.cln [0, 1, 5] (.reg [{ dst := some 15, op := .mov (.t 5) },
    { dst := some 16, op := .bini .add (.t 15) (.c (.int .i64 1)) },
    { dst := some 5, op := .mov (.t 16) }]))))))
/-- frustum/frustumref16.Same -/
def p12 : PFn := { nparams := 2, ntmps := 26, nobjs := 0, pure := true, keep := false, results := [⟨4, none⟩], body := (.cln (List.range 2) (.seq (.reg [{ dst := some 4, op := .mov (.c (.bool false)) }])
  (.seq (.seq (.reg [{ dst := some 6, op := .mov (.t 0) },
    { dst := some 7, op := .lenl (.t 6) },
    { dst := some 8, op := .mov (.t 1) },
    { dst := some 9, op := .lenl (.t 8) },
    { dst := some 10, op := .bini .neq (.t 7) (.t 9) }])
  (.cond (.t 10) (.seq (.reg [{ dst := some 4, op := .mov (.c (.bool false)) }])
  (.ret)) (.skip)))
  (.cln [0, 1] (.seq (.seq (.reg [{ dst := some 5, op := .mov (.c (.int .i64 0)) }])
  (.block 0 (p12l0)))
  (.cln [] (.seq (.reg [{ dst := some 4, op := .mov (.c (.bool true)) }])
  (.ret)))))))) }
/-- frustum/frustumlaw16.example -/
def p19 : PFn := { nparams := 0, ntmps := 15, nobjs := 0, pure := true, keep := false, results := [⟨0, none⟩], body := (.cln (List.range 0) (.seq (.reg [{ dst := some 0, op := .mov (.c (.bool false)) }])
  (.seq (.reg [{ dst := some 1, op := .bsl [.int .i64 0, .int .i64 0, .int .i64 0, .int .i64 0] [(0, .c (.int .i64 0)), (1, .c (.int .i64 1)), (2, .c (.int .i64 2)), (3, .c (.int .i64 3))] },
    { dst := some 2, op := .call (.c (.fn 13 [] [])) [.c (.int .i64 2), .t 1] },
    { dst := some 3, op := .build [.int .i64 0, .int .i64 0, .int .i64 0] [(0, 1, .c (.int .i64 0)), (1, 1, .c (.int .i64 1)), (2, 1, .c (.int .i64 2))] },
    { dst := some 4, op := .build [.int .i64 0, .int .i64 0, .int .i64 0] [(0, 1, .c (.int .i64 1)), (1, 1, .c (.int .i64 3)), (2, 1, .c (.int .i64 2))] },
    { dst := some 5, op := .bsl [.agg [.int .i64 0, .int .i64 0, .int .i64 0], .agg [.int .i64 0, .int .i64 0, .int .i64 0]] [(0, .t 3), (1, .t 4)] },
    { dst := some 6, op := .call (.c (.fn 12 [] [])) [.t 2, .t 5] },
    { dst := some 7, op := .mov (.t 6) },
    { dst := some 8, op := .bsl [.int .i64 0, .int .i64 0, .int .i64 0, .int .i64 0] [(0, .c (.int .i64 4)), (1, .c (.int .i64 5)), (2, .c (.int .i64 6)), (3, .c (.int .i64 7))], guard := some (7, true) },
    { dst := some 9, op := .call (.c (.fn 13 [] [])) [.c (.int .i64 3), .t 8], guard := some (7, true) },
    { dst := some 10, op := .build [.int .i64 0, .int .i64 0, .int .i64 0] [(0, 1, .c (.int .i64 4)), (1, 1, .c (.int .i64 5)), (2, 1, .c (.int .i64 6))], guard := some (7, true) },
    { dst := some 11, op := .build [.int .i64 0, .int .i64 0, .int .i64 0] [(0, 1, .c (.int .i64 4)), (1, 1, .c (.int .i64 6)), (2, 1, .c (.int .i64 7))], guard := some (7, true) },
    { dst := some 12, op := .bsl [.agg [.int .i64 0, .int .i64 0, .int .i64 0], .agg [.int .i64 0, .int .i64 0, .int .i64 0]] [(0, .t 10), (1, .t 11)], guard := some (7, true) },
    { dst := some 13, op := .call (.c (.fn 12 [] [])) [.t 9, .t 12], guard := some (7, true) },
    { dst := some 14, op := .pick (.t 7) (.t 13) (.c (.bool false)) },
    { dst := some 0, op := .mov (.t 14) }])
  (.ret)))) }
/-- frustum/frustumlaw16.AssembleTriangles -/
def p3 : PFn := { nparams := 3, ntmps := 63, nobjs := 2, pure := true, keep := false, results := [⟨6, none⟩], body := (.cln (List.range 3) (.seq (.reg [{ dst := some 6, op := .mov (.c (.bool false)) }])
  (.seq (.reg [{ dst := some 12, op := .mov (.t 0) },
    { dst := some 7, op := .mov (.t 12) }])
  (.seq (.reg [{ dst := some 14, op := .mov (.t 7) },
    { dst := some 15, op := .mov (.t 1) },
    { dst := some 16, op := .mov (.t 2) },
    { dst := some 17, op := .call (.c (.fn 10 [] [])) [.t 14, .t 15, .t 16] },
    { dst := some 13, op := .mov (.t 17) },
    { dst := some 18, op := .extract (.t 13) 0 },
    { dst := some 19, op := .extract (.t 13) 1 },
    { dst := some 8, op := .alloc 0 (.agg [.int .i64 0, .int .i64 0, .int .i64 0]) },
    { dst := none, op := .store (some 3) (.t 8) (.t 18) },
    { dst := some 9, op := .mov (.t 19) }])
  (.seq (.reg [{ dst := some 21, op := .mov (.t 7) },
    { dst := some 22, op := .mov (.t 1) },
    { dst := some 23, op := .mov (.t 2) },
    { dst := some 24, op := .call (.c (.fn 11 [] [])) [.t 21, .t 22, .t 23] },
    { dst := some 20, op := .mov (.t 24) },
    { dst := some 25, op := .extract (.t 20) 0 },
    { dst := some 26, op := .extract (.t 20) 1 },
    { dst := some 10, op := .alloc 1 (.agg [.int .i64 0, .int .i64 0, .int .i64 0]) },
    { dst := none, op := .store (some 3) (.t 10) (.t 25) },
    { dst := some 11, op := .mov (.t 26) }])
  (.seq (.reg [{ dst := some 27, op := .mov (.t 7) },
    { dst := some 28, op := .mov (.t 1) },
    { dst := some 29, op := .call (.c (.fn 13 [] [])) [.t 27, .t 28] },
    { dst := some 30, op := .mov (.t 7) },
    { dst := some 31, op := .mov (.t 1) },
    { dst := some 32, op := .call (.c (.fn 14 [] [])) [.t 30, .t 31] },
    { dst := some 33, op := .call (.c (.fn 12 [] [])) [.t 29, .t 32] },
    { dst := some 34, op := .mov (.t 33) },
    { dst := some 35, op := .load (some 3) (.t 8), guard := some (34, true) },
    { dst := some 36, op := .load (some 3) (.t 10), guard := some (34, true) },
    { dst := some 37, op := .eq false (.parts [(0, 1, .ei), (1, 1, .ei), (2, 1, .ei)]) (.t 35) (.t 36), guard := some (34, true) },
    { dst := some 38, op := .pick (.t 34) (.t 37) (.c (.bool false)) },
    { dst := some 39, op := .mov (.t 38) },
    { dst := some 40, op := .mov (.t 9), guard := some (39, true) },
    { dst := some 41, op := .mov (.t 11), guard := some (39, true) },
    { dst := some 42, op := .eq false (.eb) (.t 40) (.t 41), guard := some (39, true) },
    { dst := some 43, op := .pick (.t 39) (.t 42) (.c (.bool false)) },
    { dst := some 44, op := .mov (.t 43) },
    { dst := some 45, op := .mov (.t 7), guard := some (44, true) },
    { dst := some 46, op := .mov (.t 2), guard := some (44, true) },
    { dst := some 47, op := .call (.c (.fn 15 [] [])) [.t 45, .t 46], guard := some (44, true) },
    { dst := some 48, op := .mov (.t 7), guard := some (44, true) },
    { dst := some 49, op := .mov (.t 2), guard := some (44, true) },
    { dst := some 50, op := .call (.c (.fn 16 [] [])) [.t 48, .t 49], guard := some (44, true) },
    { dst := some 51, op := .bini .eql (.t 47) (.t 50), guard := some (44, true) },
    { dst := some 52, op := .pick (.t 44) (.t 51) (.c (.bool false)) },
    { dst := some 53, op := .mov (.t 52) },
    { dst := some 54, op := .mov (.t 7), guard := some (53, true) },
    { dst := some 55, op := .call (.c (.fn 17 [] [])) [.t 54], guard := some (53, true) },
    { dst := some 56, op := .mov (.t 7), guard := some (53, true) },
    { dst := some 57, op := .call (.c (.fn 18 [] [])) [.t 56], guard := some (53, true) },
    { dst := some 58, op := .eq false (.eb) (.t 55) (.t 57), guard := some (53, true) },
    { dst := some 59, op := .pick (.t 53) (.t 58) (.c (.bool false)) },
    { dst := some 60, op := .mov (.t 59) },
    { dst := some 61, op := .call (.c (.fn 19 [] [])) [], guard := some (60, true) },
    { dst := some 62, op := .pick (.t 60) (.t 61) (.c (.bool false)) },
    { dst := some 6, op := .mov (.t 62) }])
  (.ret))))))) }
def p20l1 : PC := .loop (.cln [0, 1, 5, 6] (.seq (.seq (.reg [{ dst := some 29, op := .mov (.t 6) },
    { dst := some 30, op := .mov (.t 0) },
    { dst := some 31, op := .mov (.t 5) },
    { dst := some 32, op := .iaddr 1 (.t 30) (.t 31) },
    { dst := some 33, op := .load none (.t 32) },
    { dst := some 34, op := .lenl (.t 33) },
    { dst := some 35, op := .bini .lss (.t 29) (.t 34) }])
  (.cond (.t 35) (.skip) (.exit 2)))
  (.cln [0, 1, 5, 6] (.seq (.block 3 (.seq (.regd [{ ix := 0, o := { dst := some 38, op := .mov (.t 0) }, isC := false, anc := [], chk := [] },
    { ix := 1, o := { dst := some 39, op := .mov (.t 5) }, isC := false, anc := [], chk := [] },
    { ix := 2, o := { dst := some 40, op := .iaddr 1 (.t 38) (.t 39) }, isC := false, anc := [0, 1], chk := [] },
    { ix := 3, o := { dst := some 41, op := .load none (.t 40) }, isC := false, anc := [0, 1, 2], chk := [] },
    { ix := 4, o := { dst := some 42, op := .mov (.t 6) }, isC := false, anc := [], chk := [] },
    { ix := 5, o := { dst := some 43, op := .iaddr 1 (.t 41) (.t 42) }, isC := false, anc := [0, 1, 2, 3, 4], chk := [] },
    { ix := 6, o := { dst := some 44, op := .load none (.t 43) }, isC := false, anc := [0, 1, 2, 3, 4, 5], chk := [] },
    { ix := 7, o := { dst := some 45, op := .mov (.t 1) }, isC := false, anc := [], chk := [] },
    { ix := 8, o := { dst := some 46, op := .mov (.t 5) }, isC := false, anc := [], chk := [] },
    { ix := 9, o := { dst := some 47, op := .iaddr 1 (.t 45) (.t 46) }, isC := false, anc := [7, 8], chk := [] },
    { ix := 10, o := { dst := some 48, op := .load none (.t 47) }, isC := false, anc := [7, 8, 9], chk := [] },
    { ix := 11, o := { dst := some 49, op := .mov (.t 6) }, isC := false, anc := [], chk := [] },
    { ix := 12, o := { dst := some 50, op := .iaddr 1 (.t 48) (.t 49) }, isC := false, anc := [7, 8, 9, 10, 11], chk := [] },
    { ix := 13, o := { dst := some 51, op := .load none (.t 50) }, isC := false, anc := [7, 8, 9, 10, 11, 12], chk := [] },
    { ix := 14, o := { dst := some 52, op := .bini .neq (.t 44) (.t 51) }, isC := false, anc := [0, 1, 2, 3, 4, 5, 6, 7, 8, 9, 10, 11, 12, 13], chk := [] }] [0, 1, 2, 3, 4, 5, 6, 7, 8, 9, 10, 11, 12, 13, 14] 53)
  (.cond (.t 52) (.seq (.reg [{ dst := some 4, op := .mov (.c (.bool false)) }])
  (.ret)) (.skip))))
  (.cln [0, 1, 5, 6] (.reg [{ dst := some 36, op := .mov (.t 6) },
    { dst := some 37, op := .bini .add (.t 36) (.c (.int .i64 1)) },
    { dst := some 6, op := .mov (.t 37) }]))))))
def p20l0 : PC := .loop (.cln [0, 1, 5] (.seq (.seq (.reg [{ dst := some 12, op := .mov (.t 5) },
    { dst := some 13, op := .mov (.t 0) },
    { dst := some 14, op := .lenl (.t 13) },
    { dst := some 15, op := .bini .lss (.t 12) (.t 14) }])
  (.cond (.t 15) (.skip) (.exit 0)))
  (.cln [0, 1, 5] (.seq (.block 1 (.seq (.seq (.regd [{ ix := 0, o := { dst := some 18, op := .mov (.t 0) }, isC := false, anc := [], chk := [] },
    { ix := 1, o := { dst := some 19, op := .mov (.t 5) }, isC := false, anc := [], chk := [] },
    { ix := 2, o := { dst := some 20, op := .iaddr 1 (.t 18) (.t 19) }, isC := false, anc := [0, 1], chk := [] },
    { ix := 3, o := { dst := some 21, op := .load none (.t 20) }, isC := false, anc := [0, 1, 2], chk := [] },
    { ix := 4, o := { dst := some 22, op := .lenl (.t 21) }, isC := false, anc := [0, 1, 2, 3], chk := [] },
    { ix := 5, o := { dst := some 23, op := .mov (.t 1) }, isC := false, anc := [], chk := [] },
    { ix := 6, o := { dst := some 24, op := .mov (.t 5) }, isC := false, anc := [], chk := [] },
    { ix := 7, o := { dst := some 25, op := .iaddr 1 (.t 23) (.t 24) }, isC := false, anc := [5, 6], chk := [] },
    { ix := 8, o := { dst := some 26, op := .load none (.t 25) }, isC := false, anc := [5, 6, 7], chk := [] },
    { ix := 9, o := { dst := some 27, op := .lenl (.t 26) }, isC := false, anc := [5, 6, 7, 8], chk := [] },
    { ix := 10, o := { dst := some 28, op := .bini .neq (.t 22) (.t 27) }, isC := false, anc := [0, 1, 2, 3, 4, 5, 6, 7, 8, 9], chk := [] }] [0, 1, 2, 3, 4, 5, 6, 7, 8, 9, 10] 29)
  (.cond (.t 28) (.seq (.reg [{ dst := some 4, op := .mov (.c (.bool false)) }])
  (.ret)) (.skip)))
  (.cln [0, 1, 5] (.seq (.reg [{ dst := some 6, op := .mov (.c (.int .i64 0)) }])
  (.block 2 (p20l1))))))
  (.cln [0, 1, 5] (.reg [{ dst := some 16, op := .mov (.t 5) },
    { dst := some 17, op := .bini .add (.t 16) (.c (.int .i64 1)) },
    { dst := some 5, op := .mov (.t 17) }]))))))
/-- frustum/frustumref16.SameRuns -/
def p20 : PFn := { nparams := 2, ntmps := 53, nobjs := 0, pure := true, keep := false, results := [⟨4, none⟩], body := (.cln (List.range 2) (.seq (.reg [{ dst := some 4, op := .mov (.c (.bool false)) }])
  (.seq (.seq (.reg [{ dst := some 7, op := .mov (.t 0) },
    { dst := some 8, op := .lenl (.t 7) },
    { dst := some 9, op := .mov (.t 1) },
    { dst := some 10, op := .lenl (.t 9) },
    { dst := some 11, op := .bini .neq (.t 8) (.t 10) }])
  (.cond (.t 11) (.seq (.reg [{ dst := some 4, op := .mov (.c (.bool false)) }])
  (.ret)) (.skip)))
  (.cln [0, 1] (.seq (.seq (.reg [{ dst := some 5, op := .mov (.c (.int .i64 0)) }])
  (.block 0 (p20l0)))
  (.cln [] (.seq (.reg [{ dst := some 4, op := .mov (.c (.bool true)) }])
  (.ret)))))))) }
/-- frustum/frustumlaw16.AssembleRuns -/
def p4 : PFn := { nparams := 1, ntmps := 11, nobjs := 0, pure := true, keep := false, results := [⟨2, none⟩], body := (.cln (List.range 1) (.seq (.reg [{ dst := some 2, op := .mov (.c (.bool false)) }])
  (.seq (.reg [{ dst := some 3, op := .mov (.t 0) },
    { dst := some 4, op := .call (.c (.fn 21 [] [])) [.t 3] },
    { dst := some 5, op := .mov (.t 0) },
    { dst := some 6, op := .call (.c (.fn 22 [] [])) [.t 5] },
    { dst := some 7, op := .call (.c (.fn 20 [] [])) [.t 4, .t 6] },
    { dst := some 8, op := .mov (.t 7) },
    { dst := some 9, op := .call (.c (.fn 19 [] [])) [], guard := some (8, true) },
    { dst := some 10, op := .pick (.t 8) (.t 9) (.c (.bool false)) },
    { dst := some 2, op := .mov (.t 10) }])
  (.ret)))) }
def p5l0 : PC := .loop (.cln [0, 3, 4, 5] (.seq (.seq (.reg [{ dst := some 11, op := .mov (.t 5) },
    { dst := some 12, op := .mov (.t 3) },
    { dst := some 13, op := .lenl (.t 12) },
    { dst := some 14, op := .bini .lss (.t 11) (.t 13) }])
  (.cond (.t 14) (.skip) (.exit 0)))
  (.cln [0, 3, 4, 5] (.seq (.block 1 (.seq (.seq (.reg [{ dst := some 17, op := .mov (.t 3) },
    { dst := some 18, op := .mov (.t 5) },
    { dst := some 19, op := .iaddr 1 (.t 17) (.t 18) },
    { dst := some 20, op := .load none (.t 19) },
    { dst := some 21, op := .lenl (.t 20) },
    { dst := some 22, op := .bini .eql (.t 21) (.c (.int .i64 0)) }])
  (.cond (.t 22) (.seq (.reg [{ dst := some 2, op := .mov (.c (.bool false)) }])
  (.ret)) (.skip)))
  (.cln [0, 3, 4, 5] (.reg [{ dst := some 23, op := .mov (.t 4) },
    { dst := some 24, op := .mov (.t 3) },
    { dst := some 25, op := .mov (.t 5) },
    { dst := some 26, op := .iaddr 1 (.t 24) (.t 25) },
    { dst := some 27, op := .load none (.t 26) },
    { dst := some 28, op := .append 1 true 1 8 (.t 23) (.t 27) },
    { dst := some 4, op := .mov (.t 28) }]))))
  (.cln [0, 3, 4, 5] (.reg [{ dst := some 15, op := .mov (.t 5) },
    { dst := some 16, op := .bini .add (.t 15) (.c (.int .i64 1)) },
    { dst := some 5, op := .mov (.t 16) }]))))))
def p5l1 : PC := .loop (.cln [0, 3, 4, 6, 7, 8] (.seq (.seq (.reg [{ dst := some 29, op := .mov (.t 8) },
    { dst := some 30, op := .mov (.t 0) },
    { dst := some 31, op := .lenl (.t 30) },
    { dst := some 32, op := .bini .lss (.t 29) (.t 31) }])
  (.cond (.t 32) (.skip) (.exit 2)))
  (.cln [0, 3, 4, 6, 7, 8] (.seq (.block 3 (.seq (.seq (.reg [{ dst := some 35, op := .mov (.t 0) },
    { dst := some 36, op := .mov (.t 8) },
    { dst := some 37, op := .iaddr 1 (.t 35) (.t 36) },
    { dst := some 38, op := .load none (.t 37) },
    { dst := some 39, op := .bini .lss (.t 38) (.c (.int .i64 0)) }])
  (.cond (.t 39) (.exit 3) (.skip)))
  (.cln [0, 3, 4, 6, 7, 8] (.seq (.seq (.regd [{ ix := 0, o := { dst := some 40, op := .mov (.t 6) }, isC := false, anc := [], chk := [] },
    { ix := 1, o := { dst := some 41, op := .mov (.t 4) }, isC := false, anc := [], chk := [] },
    { ix := 2, o := { dst := some 42, op := .lenl (.t 41) }, isC := false, anc := [1], chk := [] },
    { ix := 3, o := { dst := some 43, op := .bini .geq (.t 40) (.t 42) }, isC := false, anc := [0, 1, 2], chk := [] },
    { ix := 4, o := { dst := some 44, op := .mov (.t 43) }, isC := false, anc := [0, 1, 2, 3], chk := [] },
    { ix := 5, o := { dst := some 45, op := .mov (.t 4), guard := some (44, false) }, isC := false, anc := [0, 1, 2, 3, 4], chk := [] },
    { ix := 6, o := { dst := some 46, op := .mov (.t 6), guard := some (44, false) }, isC := false, anc := [0, 1, 2, 3, 4], chk := [] },
    { ix := 7, o := { dst := some 47, op := .iaddr 1 (.t 45) (.t 46), guard := some (44, false) }, isC := false, anc := [0, 1, 2, 3, 4, 5, 6], chk := [] },
    { ix := 8, o := { dst := some 48, op := .load none (.t 47), guard := some (44, false) }, isC := false, anc := [0, 1, 2, 3, 4, 5, 6, 7], chk := [] },
    { ix := 9, o := { dst := some 49, op := .mov (.t 0), guard := some (44, false) }, isC := false, anc := [0, 1, 2, 3, 4], chk := [] },
    { ix := 10, o := { dst := some 50, op := .mov (.t 8), guard := some (44, false) }, isC := false, anc := [0, 1, 2, 3, 4], chk := [] },
    { ix := 11, o := { dst := some 51, op := .iaddr 1 (.t 49) (.t 50), guard := some (44, false) }, isC := false, anc := [0, 1, 2, 3, 4, 9, 10], chk := [] },
    { ix := 12, o := { dst := some 52, op := .load none (.t 51), guard := some (44, false) }, isC := false, anc := [0, 1, 2, 3, 4, 9, 10, 11], chk := [] },
    { ix := 13, o := { dst := some 53, op := .bini .neq (.t 48) (.t 52), guard := some (44, false) }, isC := false, anc := [0, 1, 2, 3, 4, 5, 6, 7, 8, 9, 10, 11, 12], chk := [] },
    { ix := 14, o := { dst := some 54, op := .pick (.t 44) (.c (.bool true)) (.t 53) }, isC := false, anc := [0, 1, 2, 3, 4, 5, 6, 7, 8, 9, 10, 11, 12, 13], chk := [] }] [0, 1, 2, 3, 4, 5, 6, 7, 8, 9, 10, 11, 12, 13, 14] 55)
  (.cond (.t 54) (.seq (.reg [{ dst := some 2, op := .mov (.c (.bool false)) }])
  (.ret)) (.skip)))
  (.cln [0, 3, 4, 6, 7, 8] (.seq (.reg [{ dst := some 55, op := .mov (.t 6) },
    { dst := some 56, op := .bini .add (.t 55) (.c (.int .i64 1)) },
    { dst := some 6, op := .mov (.t 56) }])
  (.seq (.reg [{ dst := some 57, op := .mov (.t 8) },
    { dst := some 58, op := .bini .eql (.t 57) (.c (.int .i64 0)) },
    { dst := some 59, op := .mov (.t 58) },
    { dst := some 60, op := .mov (.t 0), guard := some (59, false) },
    { dst := some 61, op := .mov (.t 8), guard := some (59, false) },
    { dst := some 62, op := .bini .sub (.t 61) (.c (.int .i64 1)), guard := some (59, false) },
    { dst := some 63, op := .iaddr 1 (.t 60) (.t 62), guard := some (59, false) },
    { dst := some 64, op := .load none (.t 63), guard := some (59, false) },
    { dst := some 65, op := .bini .lss (.t 64) (.c (.int .i64 0)), guard := some (59, false) },
    { dst := some 66, op := .pick (.t 59) (.c (.bool true)) (.t 65) }])
  (.cond (.t 66) (.reg [{ dst := some 67, op := .mov (.t 7) },
    { dst := some 68, op := .bini .add (.t 67) (.c (.int .i64 1)) },
    { dst := some 7, op := .mov (.t 68) }]) (.skip)))))))))
  (.cln [0, 3, 4, 6, 7, 8] (.reg [{ dst := some 33, op := .mov (.t 8) },
    { dst := some 34, op := .bini .add (.t 33) (.c (.int .i64 1)) },
    { dst := some 8, op := .mov (.t 34) }]))))))
/-- frustum/frustumlaw16.AssembleRunsPartition -/
def p5 : PFn := { nparams := 1, ntmps := 82, nobjs := 2, pure := true, keep := false, results := [⟨2, none⟩], body := (.cln (List.range 1) (.seq (.reg [{ dst := some 2, op := .mov (.c (.bool false)) }])
  (.seq (.reg [{ dst := some 9, op := .mov (.t 0) },
    { dst := some 10, op := .call (.c (.fn 21 [] [])) [.t 9] },
    { dst := some 3, op := .mov (.t 10) }])
  (.seq (.reg [{ dst := some 4, op := .vec 0 true 1 }])
  (.seq (.seq (.reg [{ dst := some 5, op := .mov (.c (.int .i64 0)) }])
  (.block 0 (p5l0)))
  (.cln [0, 3, 4] (.seq (.reg [{ dst := some 6, op := .mov (.c (.int .i64 0)) },
    { dst := some 7, op := .mov (.c (.int .i64 0)) }])
  (.seq (.seq (.reg [{ dst := some 8, op := .mov (.c (.int .i64 0)) }])
  (.block 2 (p5l1)))
  (.cln [3, 4, 6, 7] (.seq (.reg [{ dst := some 69, op := .mov (.t 6) },
    { dst := some 70, op := .mov (.t 4) },
    { dst := some 71, op := .lenl (.t 70) },
    { dst := some 72, op := .bini .eql (.t 69) (.t 71) },
    { dst := some 73, op := .mov (.t 72) },
    { dst := some 74, op := .mov (.t 7), guard := some (73, true) },
    { dst := some 75, op := .mov (.t 3), guard := some (73, true) },
    { dst := some 76, op := .lenl (.t 75), guard := some (73, true) },
    { dst := some 77, op := .bini .eql (.t 74) (.t 76), guard := some (73, true) },
    { dst := some 78, op := .pick (.t 73) (.t 77) (.c (.bool false)) },
    { dst := some 79, op := .mov (.t 78) },
    { dst := some 80, op := .call (.c (.fn 19 [] [])) [], guard := some (79, true) },
    { dst := some 81, op := .pick (.t 79) (.t 80) (.c (.bool false)) },
    { dst := some 2, op := .mov (.t 81) }])
  (.ret))))))))))) }
def p6l1 : PC := .loop (.cln [5, 6, 7, 8, 9, 10, 11] (.seq (.seq (.reg [{ dst := some 46, op := .mov (.t 11) },
    { dst := some 47, op := .mov (.t 10) },
    { dst := some 48, op := .bini .lss (.t 46) (.t 47) }])
  (.cond (.t 48) (.skip) (.exit 2)))
  (.cln [5, 6, 7, 8, 9, 10, 11] (.seq (.block 3 (.seq (.reg [{ dst := some 52, op := .mov (.t 5) },
    { dst := some 53, op := .mov (.t 7) },
    { dst := some 54, op := .mov (.t 9) },
    { dst := some 55, op := .iaddr 1 (.t 53) (.t 54) },
    { dst := some 56, op := .load none (.t 55) },
    { dst := some 57, op := .mov (.t 11) },
    { dst := some 58, op := .call (.c (.fn 10 [] [])) [.t 52, .t 56, .t 57] },
    { dst := some 51, op := .mov (.t 58) },
    { dst := some 59, op := .extract (.t 51) 0 },
    { dst := some 60, op := .extract (.t 51) 1 },
    { dst := some 12, op := .alloc 0 (.agg [.int .i64 0, .int .i64 0, .int .i64 0]) },
    { dst := none, op := .store (some 3) (.t 12) (.t 59) },
    { dst := some 13, op := .mov (.t 60) }])
  (.seq (.seq (.regd [{ ix := 0, o := { dst := some 61, op := .mov (.t 13) }, isC := false, anc := [], chk := [] },
    { ix := 1, o := { dst := some 62, op := .notb (.t 61) }, isC := false, anc := [0], chk := [] },
    { ix := 2, o := { dst := some 63, op := .mov (.t 62) }, isC := false, anc := [0, 1], chk := [] },
    { ix := 3, o := { dst := some 64, op := .mov (.t 8), guard := some (63, false) }, isC := false, anc := [0, 1, 2], chk := [] },
    { ix := 4, o := { dst := some 65, op := .mov (.t 6), guard := some (63, false) }, isC := false, anc := [0, 1, 2], chk := [] },
    { ix := 5, o := { dst := some 66, op := .lenl (.t 65), guard := some (63, false) }, isC := false, anc := [0, 1, 2, 4], chk := [] },
    { ix := 6, o := { dst := some 67, op := .bini .geq (.t 64) (.t 66), guard := some (63, false) }, isC := false, anc := [0, 1, 2, 3, 4, 5], chk := [] },
    { ix := 7, o := { dst := some 68, op := .pick (.t 63) (.c (.bool true)) (.t 67) }, isC := false, anc := [0, 1, 2, 3, 4, 5, 6], chk := [] },
    { ix := 8, o := { dst := some 69, op := .mov (.t 68) }, isC := false, anc := [0, 1, 2, 3, 4, 5, 6, 7], chk := [] },
    { ix := 9, o := { dst := some 70, op := .mov (.t 6), guard := some (69, false) }, isC := false, anc := [0, 1, 2, 3, 4, 5, 6, 7, 8], chk := [] },
    { ix := 10, o := { dst := some 71, op := .mov (.t 8), guard := some (69, false) }, isC := false, anc := [0, 1, 2, 3, 4, 5, 6, 7, 8], chk := [] },
    { ix := 11, o := { dst := some 72, op := .iaddr 3 (.t 70) (.t 71), guard := some (69, false) }, isC := false, anc := [0, 1, 2, 3, 4, 5, 6, 7, 8, 9, 10], chk := [] },
    { ix := 12, o := { dst := some 73, op := .load (some 3) (.t 72), guard := some (69, false) }, isC := false, anc := [0, 1, 2, 3, 4, 5, 6, 7, 8, 9, 10, 11], chk := [] },
    { ix := 13, o := { dst := some 74, op := .load (some 3) (.t 12), guard := some (69, false) }, isC := false, anc := [0, 1, 2, 3, 4, 5, 6, 7, 8], chk := [] },
    { ix := 14, o := { dst := some 75, op := .eq true (.parts [(0, 1, .ei), (1, 1, .ei), (2, 1, .ei)]) (.t 73) (.t 74), guard := some (69, false) }, isC := false, anc := [0, 1, 2, 3, 4, 5, 6, 7, 8, 9, 10, 11, 12, 13], chk := [] },
    { ix := 15, o := { dst := some 76, op := .pick (.t 69) (.c (.bool true)) (.t 75) }, isC := false, anc := [0, 1, 2, 3, 4, 5, 6, 7, 8, 9, 10, 11, 12, 13, 14], chk := [] }] [0, 1, 2, 3, 4, 5, 6, 7, 8, 9, 10, 11, 12, 13, 14, 15] 77)
  (.cond (.t 76) (.seq (.reg [{ dst := some 4, op := .mov (.c (.bool false)) }])
  (.ret)) (.skip)))
  (.cln [5, 6, 7, 8, 9, 10, 11] (.reg [{ dst := some 77, op := .mov (.t 8) },
    { dst := some 78, op := .bini .add (.t 77) (.c (.int .i64 1)) },
    { dst := some 8, op := .mov (.t 78) }])))))
  (.cln [5, 6, 7, 8, 9, 10, 11] (.reg [{ dst := some 49, op := .mov (.t 11) },
    { dst := some 50, op := .bini .add (.t 49) (.c (.int .i64 1)) },
    { dst := some 11, op := .mov (.t 50) }]))))))
def p6l0 : PC := .loop (.cln [5, 6, 7, 8, 9] (.seq (.seq (.reg [{ dst := some 22, op := .mov (.t 9) },
    { dst := some 23, op := .mov (.t 7) },
    { dst := some 24, op := .lenl (.t 23) },
    { dst := some 25, op := .bini .lss (.t 22) (.t 24) }])
  (.cond (.t 25) (.skip) (.exit 0)))
  (.cln [5, 6, 7, 8, 9] (.seq (.block 1 (.seq (.reg [{ dst := some 28, op := .mov (.t 5) },
    { dst := some 29, op := .mov (.t 7) },
    { dst := some 30, op := .mov (.t 9) },
    { dst := some 31, op := .iaddr 1 (.t 29) (.t 30) },
    { dst := some 32, op := .load none (.t 31) },
    { dst := some 33, op := .lenl (.t 32) },
    { dst := some 34, op := .call (.c (.fn 15 [] [])) [.t 28, .t 33] },
    { dst := some 10, op := .mov (.t 34) }])
  (.seq (.seq (.reg [{ dst := some 35, op := .mov (.t 10) },
    { dst := some 36, op := .bini .lss (.t 35) (.c (.int .i64 0)) },
    { dst := some 37, op := .mov (.t 36) },
    { dst := some 38, op := .mov (.t 10), guard := some (37, false) },
    { dst := some 39, op := .mov (.t 7), guard := some (37, false) },
    { dst := some 40, op := .mov (.t 9), guard := some (37, false) },
    { dst := some 41, op := .iaddr 1 (.t 39) (.t 40), guard := some (37, false) },
    { dst := some 42, op := .load none (.t 41), guard := some (37, false) },
    { dst := some 43, op := .lenl (.t 42), guard := some (37, false) },
    { dst := some 44, op := .bini .gtr (.t 38) (.t 43), guard := some (37, false) },
    { dst := some 45, op := .pick (.t 37) (.c (.bool true)) (.t 44) }])
  (.cond (.t 45) (.seq (.reg [{ dst := some 4, op := .mov (.c (.bool false)) }])
  (.ret)) (.skip)))
  (.cln [5, 6, 7, 8, 9, 10] (.seq (.seq (.reg [{ dst := some 11, op := .mov (.c (.int .i64 0)) }])
  (.block 2 (p6l1)))
  (.cln [5, 6, 7, 8, 9, 10] (.seq (.reg [{ dst := some 80, op := .mov (.t 5) },
    { dst := some 81, op := .mov (.t 7) },
    { dst := some 82, op := .mov (.t 9) },
    { dst := some 83, op := .iaddr 1 (.t 81) (.t 82) },
    { dst := some 84, op := .load none (.t 83) },
    { dst := some 85, op := .mov (.t 10) },
    { dst := some 86, op := .call (.c (.fn 10 [] [])) [.t 80, .t 84, .t 85] },
    { dst := some 79, op := .mov (.t 86) },
    { dst := some 87, op := .extract (.t 79) 0 },
    { dst := some 88, op := .extract (.t 79) 1 },
    { dst := some 14, op := .alloc 1 (.agg [.int .i64 0, .int .i64 0, .int .i64 0]) },
    { dst := none, op := .store (some 3) (.t 14) (.t 87) },
    { dst := some 15, op := .mov (.t 88) }])
  (.seq (.reg [{ dst := some 89, op := .mov (.t 15) }])
  (.cond (.t 89) (.seq (.reg [{ dst := some 4, op := .mov (.c (.bool false)) }])
  (.ret)) (.skip))))))))))
  (.cln [5, 6, 7, 8, 9] (.reg [{ dst := some 26, op := .mov (.t 9) },
    { dst := some 27, op := .bini .add (.t 26) (.c (.int .i64 1)) },
    { dst := some 9, op := .mov (.t 27) }]))))))
/-- frustum/frustumlaw16.AssembleCountSum -/
def p6 : PFn := { nparams := 2, ntmps := 105, nobjs := 2, pure := true, keep := false, results := [⟨4, none⟩], body := (.cln (List.range 2) (.seq (.reg [{ dst := some 4, op := .mov (.c (.bool false)) }])
  (.seq (.reg [{ dst := some 16, op := .mov (.t 0) },
    { dst := some 5, op := .mov (.t 16) }])
  (.seq (.reg [{ dst := some 17, op := .mov (.t 5) },
    { dst := some 18, op := .mov (.t 1) },
    { dst := some 19, op := .call (.c (.fn 13 [] [])) [.t 17, .t 18] },
    { dst := some 6, op := .mov (.t 19) }])
  (.seq (.reg [{ dst := some 20, op := .mov (.t 1) },
    { dst := some 21, op := .call (.c (.fn 21 [] [])) [.t 20] },
    { dst := some 7, op := .mov (.t 21) }])
  (.seq (.reg [{ dst := some 8, op := .mov (.c (.int .i64 0)) }])
  (.seq (.seq (.reg [{ dst := some 9, op := .mov (.c (.int .i64 0)) }])
  (.block 0 (p6l0)))
  (.cln [5, 6, 8] (.seq (.reg [{ dst := some 90, op := .mov (.t 8) },
    { dst := some 91, op := .mov (.t 6) },
    { dst := some 92, op := .lenl (.t 91) },
    { dst := some 93, op := .bini .eql (.t 90) (.t 92) },
    { dst := some 94, op := .mov (.t 93) },
    { dst := some 95, op := .mov (.t 5), guard := some (94, true) },
    { dst := some 96, op := .call (.c (.fn 17 [] [])) [.t 95], guard := some (94, true) },
    { dst := some 97, op := .mov (.t 96), guard := some (94, true) },
    { dst := some 98, op := .mov (.t 8), guard := some (97, false) },
    { dst := some 99, op := .bini .eql (.t 98) (.c (.int .i64 0)), guard := some (97, false) },
    { dst := some 100, op := .pick (.t 97) (.c (.bool true)) (.t 99), guard := some (94, true) },
    { dst := some 101, op := .pick (.t 94) (.t 100) (.c (.bool false)) },
    { dst := some 102, op := .mov (.t 101) },
    { dst := some 103, op := .call (.c (.fn 19 [] [])) [], guard := some (102, true) },
    { dst := some 104, op := .pick (.t 102) (.t 103) (.c (.bool false)) },
    { dst := some 4, op := .mov (.t 104) }])
  (.ret)))))))))) }
/-- frustum/assemble.Rotate -/
def p23 : PFn := { nparams := 2, ntmps := 24, nobjs := 1, pure := true, keep := false, results := [⟨4, some (some 3)⟩], body := (.cln (List.range 2) (.seq (.reg [{ dst := some 2, op := .boxi (.t 0) },
    { dst := some 4, op := .alloc 0 (.agg [.int .i64 0, .int .i64 0, .int .i64 0]) }])
  (.seq (.reg [{ dst := some 6, op := .mov (.t 1) },
    { dst := some 7, op := .bini .rem (.t 6) (.c (.int .i64 3)) },
    { dst := some 8, op := .bini .add (.t 7) (.c (.int .i64 3)) },
    { dst := some 9, op := .bini .rem (.t 8) (.c (.int .i64 3)) },
    { dst := some 5, op := .mov (.t 9) }])
  (.seq (.regd [{ ix := 0, o := { dst := some 10, op := .mov (.t 5) }, isC := false, anc := [], chk := [] },
    { ix := 1, o := { dst := some 11, op := .iaddra 3 1 (.t 2) (.t 10) }, isC := false, anc := [0], chk := [] },
    { ix := 2, o := { dst := some 12, op := .load none (.t 11) }, isC := false, anc := [0, 1], chk := [] },
    { ix := 3, o := { dst := some 13, op := .mov (.t 5) }, isC := false, anc := [], chk := [] },
    { ix := 4, o := { dst := some 14, op := .bini .add (.t 13) (.c (.int .i64 1)) }, isC := false, anc := [3], chk := [] },
    { ix := 5, o := { dst := some 15, op := .bini .rem (.t 14) (.c (.int .i64 3)) }, isC := false, anc := [3, 4], chk := [] },
    { ix := 6, o := { dst := some 16, op := .iaddra 3 1 (.t 2) (.t 15) }, isC := false, anc := [3, 4, 5], chk := [] },
    { ix := 7, o := { dst := some 17, op := .load none (.t 16) }, isC := false, anc := [3, 4, 5, 6], chk := [] },
    { ix := 8, o := { dst := some 18, op := .mov (.t 5) }, isC := false, anc := [], chk := [] },
    { ix := 9, o := { dst := some 19, op := .bini .add (.t 18) (.c (.int .i64 2)) }, isC := false, anc := [8], chk := [] },
    { ix := 10, o := { dst := some 20, op := .bini .rem (.t 19) (.c (.int .i64 3)) }, isC := false, anc := [8, 9], chk := [] },
    { ix := 11, o := { dst := some 21, op := .iaddra 3 1 (.t 2) (.t 20) }, isC := false, anc := [8, 9, 10], chk := [] },
    { ix := 12, o := { dst := some 22, op := .load none (.t 21) }, isC := false, anc := [8, 9, 10, 11], chk := [] },
    { ix := 13, o := { dst := some 23, op := .build [.int .i64 0, .int .i64 0, .int .i64 0] [(0, 1, .t 12), (1, 1, .t 17), (2, 1, .t 22)] }, isC := false, anc := [0, 1, 2, 3, 4, 5, 6, 7, 8, 9, 10, 11, 12], chk := [] },
    { ix := 14, o := { dst := none, op := .store (some 3) (.t 4) (.t 23) }, isC := true, anc := [0, 1, 2, 3, 4, 5, 6, 7, 8, 9, 10, 11, 12, 13], chk := [] }] [0, 1, 2, 3, 4, 5, 6, 7, 8, 9, 10, 11, 12, 13, 14] 24)
  (.ret))))) }
/-- frustum/frustumlaw16.directed -/
def p24 : PFn := { nparams := 3, ntmps := 41, nobjs := 0, pure := true, keep := false, results := [⟨6, none⟩], body := (.cln (List.range 3) (.seq (.reg [{ dst := some 3, op := .boxi (.t 0) },
    { dst := some 6, op := .mov (.c (.bool false)) }])
  (.seq (.reg [{ dst := some 7, op := .iaddra 3 1 (.t 3) (.c (.int .i64 0)) },
    { dst := some 8, op := .load none (.t 7) },
    { dst := some 9, op := .mov (.t 1) },
    { dst := some 10, op := .bini .eql (.t 8) (.t 9) },
    { dst := some 11, op := .mov (.t 10) },
    { dst := some 12, op := .iaddra 3 1 (.t 3) (.c (.int .i64 1)), guard := some (11, true) },
    { dst := some 13, op := .load none (.t 12), guard := some (11, true) },
    { dst := some 14, op := .mov (.t 2), guard := some (11, true) },
    { dst := some 15, op := .bini .eql (.t 13) (.t 14), guard := some (11, true) },
    { dst := some 16, op := .pick (.t 11) (.t 15) (.c (.bool false)) },
    { dst := some 17, op := .mov (.t 16) },
    { dst := some 18, op := .iaddra 3 1 (.t 3) (.c (.int .i64 1)), guard := some (17, false) },
    { dst := some 19, op := .load none (.t 18), guard := some (17, false) },
    { dst := some 20, op := .mov (.t 1), guard := some (17, false) },
    { dst := some 21, op := .bini .eql (.t 19) (.t 20), guard := some (17, false) },
    { dst := some 22, op := .mov (.t 21), guard := some (17, false) },
    { dst := some 23, op := .iaddra 3 1 (.t 3) (.c (.int .i64 2)), guard := some (22, true) },
    { dst := some 24, op := .load none (.t 23), guard := some (22, true) },
    { dst := some 25, op := .mov (.t 2), guard := some (22, true) },
    { dst := some 26, op := .bini .eql (.t 24) (.t 25), guard := some (22, true) },
    { dst := some 27, op := .pick (.t 22) (.t 26) (.c (.bool false)), guard := some (17, false) },
    { dst := some 28, op := .pick (.t 17) (.c (.bool true)) (.t 27) },
    { dst := some 29, op := .mov (.t 28) },
    { dst := some 30, op := .iaddra 3 1 (.t 3) (.c (.int .i64 2)), guard := some (29, false) },
    { dst := some 31, op := .load none (.t 30), guard := some (29, false) },
    { dst := some 32, op := .mov (.t 1), guard := some (29, false) },
    { dst := some 33, op := .bini .eql (.t 31) (.t 32), guard := some (29, false) },
    { dst := some 34, op := .mov (.t 33), guard := some (29, false) },
    { dst := some 35, op := .iaddra 3 1 (.t 3) (.c (.int .i64 0)), guard := some (34, true) },
    { dst := some 36, op := .load none (.t 35), guard := some (34, true) },
    { dst := some 37, op := .mov (.t 2), guard := some (34, true) },
    { dst := some 38, op := .bini .eql (.t 36) (.t 37), guard := some (34, true) },
    { dst := some 39, op := .pick (.t 34) (.t 38) (.c (.bool false)), guard := some (29, false) },
    { dst := some 40, op := .pick (.t 29) (.c (.bool true)) (.t 39) },
    { dst := some 6, op := .mov (.t 40) }])
  (.ret)))) }
def p7l0 : PC := .loop (.cln [3, 7, 8] (.seq (.seq (.reg [{ dst := some 44, op := .mov (.t 8) },
    { dst := some 45, op := .bini .lss (.t 44) (.c (.int .i64 3)) }])
  (.cond (.t 45) (.skip) (.exit 0)))
  (.cln [3, 7, 8] (.seq (.block 1 (.seq (.regd [{ ix := 0, o := { dst := some 48, op := .load (some 3) (.t 7) }, isC := false, anc := [], chk := [] },
    { ix := 1, o := { dst := some 49, op := .mov (.t 8) }, isC := false, anc := [], chk := [] },
    { ix := 2, o := { dst := some 50, op := .iaddra 3 1 (.t 3) (.t 49) }, isC := false, anc := [1], chk := [] },
    { ix := 3, o := { dst := some 51, op := .load none (.t 50) }, isC := false, anc := [1, 2], chk := [] },
    { ix := 4, o := { dst := some 52, op := .mov (.t 8) }, isC := false, anc := [], chk := [] },
    { ix := 5, o := { dst := some 53, op := .bini .add (.t 52) (.c (.int .i64 1)) }, isC := false, anc := [4], chk := [] },
    { ix := 6, o := { dst := some 54, op := .bini .rem (.t 53) (.c (.int .i64 3)) }, isC := false, anc := [4, 5], chk := [] },
    { ix := 7, o := { dst := some 55, op := .iaddra 3 1 (.t 3) (.t 54) }, isC := false, anc := [4, 5, 6], chk := [] },
    { ix := 8, o := { dst := some 56, op := .load none (.t 55) }, isC := false, anc := [4, 5, 6, 7], chk := [] },
    { ix := 9, o := { dst := some 57, op := .call (.c (.fn 24 [] [])) [.t 48, .t 51, .t 56] }, isC := true, anc := [0, 1, 2, 3, 4, 5, 6, 7, 8], chk := [] },
    { ix := 10, o := { dst := some 58, op := .notb (.t 57) }, isC := false, anc := [0, 1, 2, 3, 4, 5, 6, 7, 8, 9], chk := [] }] [0, 1, 2, 3, 4, 5, 6, 7, 8, 9, 10] 59)
  (.cond (.t 58) (.seq (.reg [{ dst := some 6, op := .mov (.c (.bool false)) }])
  (.ret)) (.skip))))
  (.cln [3, 7, 8] (.reg [{ dst := some 46, op := .mov (.t 8) },
    { dst := some 47, op := .bini .add (.t 46) (.c (.int .i64 1)) },
    { dst := some 8, op := .mov (.t 47) }]))))))
/-- frustum/frustumlaw16.AssembleRotate -/
def p7 : PFn := { nparams := 3, ntmps := 72, nobjs := 1, pure := true, keep := false, results := [⟨6, none⟩], body := (.cln (List.range 3) (.seq (.reg [{ dst := some 3, op := .boxi (.t 0) },
    { dst := some 6, op := .mov (.c (.bool false)) }])
  (.seq (.reg [{ dst := some 9, op := .load (some 3) (.t 3) },
    { dst := some 10, op := .mov (.t 1) },
    { dst := some 11, op := .call (.c (.fn 23 [] [])) [.t 9, .t 10] },
    { dst := some 7, op := .alloc 0 (.agg [.int .i64 0, .int .i64 0, .int .i64 0]) },
    { dst := none, op := .store (some 3) (.t 7) (.t 11) }])
  (.seq (.seq (.regd [{ ix := 0, o := { dst := some 12, op := .load (some 3) (.t 7) }, isC := false, anc := [], chk := [] },
    { ix := 1, o := { dst := some 13, op := .mov (.t 2) }, isC := false, anc := [], chk := [] },
    { ix := 3, o := { dst := some 15, op := .load (some 3) (.t 3) }, isC := false, anc := [], chk := [] },
    { ix := 4, o := { dst := some 16, op := .mov (.t 1) }, isC := false, anc := [], chk := [] },
    { ix := 5, o := { dst := some 17, op := .bini .rem (.t 16) (.c (.int .i64 3)) }, isC := false, anc := [4], chk := [] },
    { ix := 6, o := { dst := some 18, op := .mov (.t 2) }, isC := false, anc := [], chk := [] },
    { ix := 7, o := { dst := some 19, op := .bini .rem (.t 18) (.c (.int .i64 3)) }, isC := false, anc := [6], chk := [] },
    { ix := 8, o := { dst := some 20, op := .bini .add (.t 17) (.t 19) }, isC := false, anc := [4, 5, 6, 7], chk := [] },
    { ix := 2, o := { dst := some 14, op := .call (.c (.fn 23 [] [])) [.t 12, .t 13] }, isC := true, anc := [0, 1], chk := [3] },
    { ix := 9, o := { dst := some 21, op := .call (.c (.fn 23 [] [])) [.t 15, .t 20] }, isC := true, anc := [0, 1, 2, 3, 4, 5, 6, 7, 8], chk := [] },
    { ix := 10, o := { dst := some 22, op := .eq true (.parts [(0, 1, .ei), (1, 1, .ei), (2, 1, .ei)]) (.t 14) (.t 21) }, isC := false, anc := [0, 1, 2, 3, 4, 5, 6, 7, 8, 9], chk := [] },
    { ix := 11, o := { dst := some 23, op := .mov (.t 22) }, isC := false, anc := [0, 1, 2, 3, 4, 5, 6, 7, 8, 9, 10], chk := [] },
    { ix := 12, o := { dst := some 24, op := .load (some 3) (.t 3), guard := some (23, false) }, isC := false, anc := [0, 1, 2, 3, 4, 5, 6, 7, 8, 9, 10, 11], chk := [] },
    { ix := 13, o := { dst := some 25, op := .mov (.t 1), guard := some (23, false) }, isC := false, anc := [0, 1, 2, 3, 4, 5, 6, 7, 8, 9, 10, 11], chk := [] },
    { ix := 14, o := { dst := some 26, op := .bini .rem (.t 25) (.c (.int .i64 3)), guard := some (23, false) }, isC := false, anc := [0, 1, 2, 3, 4, 5, 6, 7, 8, 9, 10, 11, 13], chk := [] },
    { ix := 16, o := { dst := some 28, op := .load (some 3) (.t 7), guard := some (23, false) }, isC := false, anc := [0, 1, 2, 3, 4, 5, 6, 7, 8, 9, 10, 11], chk := [] },
    { ix := 15, o := { dst := some 27, op := .call (.c (.fn 23 [] [])) [.t 24, .t 26], guard := some (23, false) }, isC := true, anc := [0, 1, 2, 3, 4, 5, 6, 7, 8, 9, 10, 11, 12, 13, 14], chk := [16] },
    { ix := 17, o := { dst := some 29, op := .eq true (.parts [(0, 1, .ei), (1, 1, .ei), (2, 1, .ei)]) (.t 27) (.t 28), guard := some (23, false) }, isC := false, anc := [0, 1, 2, 3, 4, 5, 6, 7, 8, 9, 10, 11, 12, 13, 14, 15, 16], chk := [] },
    { ix := 18, o := { dst := some 30, op := .pick (.t 23) (.c (.bool true)) (.t 29) }, isC := false, anc := [0, 1, 2, 3, 4, 5, 6, 7, 8, 9, 10, 11, 12, 13, 14, 15, 16, 17], chk := [] },
    { ix := 19, o := { dst := some 31, op := .mov (.t 30) }, isC := false, anc := [0, 1, 2, 3, 4, 5, 6, 7, 8, 9, 10, 11, 12, 13, 14, 15, 16, 17, 18], chk := [] },
    { ix := 20, o := { dst := some 32, op := .load (some 3) (.t 3), guard := some (31, false) }, isC := false, anc := [0, 1, 2, 3, 4, 5, 6, 7, 8, 9, 10, 11, 12, 13, 14, 15, 16, 17, 18, 19], chk := [] },
    { ix := 22, o := { dst := some 34, op := .load (some 3) (.t 3), guard := some (31, false) }, isC := false, anc := [0, 1, 2, 3, 4, 5, 6, 7, 8, 9, 10, 11, 12, 13, 14, 15, 16, 17, 18, 19], chk := [] },
    { ix := 21, o := { dst := some 33, op := .call (.c (.fn 23 [] [])) [.t 32, .c (.int .i64 0)], guard := some (31, false) }, isC := true, anc := [0, 1, 2, 3, 4, 5, 6, 7, 8, 9, 10, 11, 12, 13, 14, 15, 16, 17, 18, 19, 20], chk := [22] },
    { ix := 23, o := { dst := some 35, op := .eq true (.parts [(0, 1, .ei), (1, 1, .ei), (2, 1, .ei)]) (.t 33) (.t 34), guard := some (31, false) }, isC := false, anc := [0, 1, 2, 3, 4, 5, 6, 7, 8, 9, 10, 11, 12, 13, 14, 15, 16, 17, 18, 19, 20, 21, 22], chk := [] },
    { ix := 24, o := { dst := some 36, op := .pick (.t 31) (.c (.bool true)) (.t 35) }, isC := false, anc := [0, 1, 2, 3, 4, 5, 6, 7, 8, 9, 10, 11, 12, 13, 14, 15, 16, 17, 18, 19, 20, 21, 22, 23], chk := [] },
    { ix := 25, o := { dst := some 37, op := .mov (.t 36) }, isC := false, anc := [0, 1, 2, 3, 4, 5, 6, 7, 8, 9, 10, 11, 12, 13, 14, 15, 16, 17, 18, 19, 20, 21, 22, 23, 24], chk := [] },
    { ix := 26, o := { dst := some 38, op := .load (some 3) (.t 3), guard := some (37, false) }, isC := false, anc := [0, 1, 2, 3, 4, 5, 6, 7, 8, 9, 10, 11, 12, 13, 14, 15, 16, 17, 18, 19, 20, 21, 22, 23, 24, 25], chk := [] },
    { ix := 28, o := { dst := some 40, op := .load (some 3) (.t 3), guard := some (37, false) }, isC := false, anc := [0, 1, 2, 3, 4, 5, 6, 7, 8, 9, 10, 11, 12, 13, 14, 15, 16, 17, 18, 19, 20, 21, 22, 23, 24, 25], chk := [] },
    { ix := 27, o := { dst := some 39, op := .call (.c (.fn 23 [] [])) [.t 38, .c (.int .i64 (-2))], guard := some (37, false) }, isC := true, anc := [0, 1, 2, 3, 4, 5, 6, 7, 8, 9, 10, 11, 12, 13, 14, 15, 16, 17, 18, 19, 20, 21, 22, 23, 24, 25, 26], chk := [28] },
    { ix := 29, o := { dst := some 41, op := .call (.c (.fn 23 [] [])) [.t 40, .c (.int .i64 1)], guard := some (37, false) }, isC := true, anc := [0, 1, 2, 3, 4, 5, 6, 7, 8, 9, 10, 11, 12, 13, 14, 15, 16, 17, 18, 19, 20, 21, 22, 23, 24, 25, 26, 27, 28], chk := [] },
    { ix := 30, o := { dst := some 42, op := .eq true (.parts [(0, 1, .ei), (1, 1, .ei), (2, 1, .ei)]) (.t 39) (.t 41), guard := some (37, false) }, isC := false, anc := [0, 1, 2, 3, 4, 5, 6, 7, 8, 9, 10, 11, 12, 13, 14, 15, 16, 17, 18, 19, 20, 21, 22, 23, 24, 25, 26, 27, 28, 29], chk := [] },
    { ix := 31, o := { dst := some 43, op := .pick (.t 37) (.c (.bool true)) (.t 42) }, isC := false, anc := [0, 1, 2, 3, 4, 5, 6, 7, 8, 9, 10, 11, 12, 13, 14, 15, 16, 17, 18, 19, 20, 21, 22, 23, 24, 25, 26, 27, 28, 29, 30], chk := [] }] [0, 1, 2, 3, 4, 5, 6, 7, 8, 9, 10, 11, 12, 13, 14, 15, 16, 17, 18, 19, 20, 21, 22, 23, 24, 25, 26, 27, 28, 29, 30, 31] 44)
  (.cond (.t 43) (.seq (.reg [{ dst := some 6, op := .mov (.c (.bool false)) }])
  (.ret)) (.skip)))
  (.cln [3, 7] (.seq (.seq (.reg [{ dst := some 8, op := .mov (.c (.int .i64 0)) }])
  (.block 0 (p7l0)))
  (.cln [3] (.seq (.regd [{ ix := 0, o := { dst := some 59, op := .load (some 3) (.t 3) }, isC := false, anc := [], chk := [] },
    { ix := 2, o := { dst := some 61, op := .iaddra 3 1 (.t 3) (.c (.int .i64 1)) }, isC := false, anc := [], chk := [] },
    { ix := 3, o := { dst := some 62, op := .load none (.t 61) }, isC := false, anc := [2], chk := [] },
    { ix := 4, o := { dst := some 63, op := .iaddra 3 1 (.t 3) (.c (.int .i64 2)) }, isC := false, anc := [], chk := [] },
    { ix := 5, o := { dst := some 64, op := .load none (.t 63) }, isC := false, anc := [4], chk := [] },
    { ix := 6, o := { dst := some 65, op := .iaddra 3 1 (.t 3) (.c (.int .i64 0)) }, isC := false, anc := [], chk := [] },
    { ix := 7, o := { dst := some 66, op := .load none (.t 65) }, isC := false, anc := [6], chk := [] },
    { ix := 8, o := { dst := some 67, op := .build [.int .i64 0, .int .i64 0, .int .i64 0] [(0, 1, .t 62), (1, 1, .t 64), (2, 1, .t 66)] }, isC := false, anc := [2, 3, 4, 5, 6, 7], chk := [] },
    { ix := 1, o := { dst := some 60, op := .call (.c (.fn 23 [] [])) [.t 59, .c (.int .i64 1)] }, isC := true, anc := [0], chk := [2, 3, 4, 5, 6, 7] },
    { ix := 9, o := { dst := some 68, op := .eq false (.parts [(0, 1, .ei), (1, 1, .ei), (2, 1, .ei)]) (.t 60) (.t 67) }, isC := false, anc := [0, 1, 2, 3, 4, 5, 6, 7, 8], chk := [] },
    { ix := 10, o := { dst := some 69, op := .mov (.t 68) }, isC := false, anc := [0, 1, 2, 3, 4, 5, 6, 7, 8, 9], chk := [] },
    { ix := 11, o := { dst := some 70, op := .call (.c (.fn 19 [] [])) [], guard := some (69, true) }, isC := true, anc := [0, 1, 2, 3, 4, 5, 6, 7, 8, 9, 10], chk := [] },
    { ix := 12, o := { dst := some 71, op := .pick (.t 69) (.t 70) (.c (.bool false)) }, isC := false, anc := [0, 1, 2, 3, 4, 5, 6, 7, 8, 9, 10, 11], chk := [] },
    { ix := 13, o := { dst := some 6, op := .mov (.t 71) }, isC := false, anc := [0, 1, 2, 3, 4, 5, 6, 7, 8, 9, 10, 11, 12], chk := [] }] [0, 1, 2, 3, 4, 5, 6, 7, 8, 9, 10, 11, 12, 13] 72)
  (.ret))))))))) }
/-- frustum/assemble.less -/
def p32 : PFn := { nparams := 2, ntmps := 24, nobjs := 0, pure := true, keep := false, results := [⟨4, none⟩], body := (.cln (List.range 2) (.seq (.reg [{ dst := some 2, op := .boxi (.t 0) },
    { dst := some 3, op := .boxi (.t 1) },
    { dst := some 4, op := .mov (.c (.bool false)) }])
  (.seq (.reg [{ dst := some 5, op := .iaddra 2 1 (.t 2) (.c (.int .i64 0)) },
    { dst := some 6, op := .load none (.t 5) },
    { dst := some 7, op := .iaddra 2 1 (.t 3) (.c (.int .i64 0)) },
    { dst := some 8, op := .load none (.t 7) },
    { dst := some 9, op := .bini .lss (.t 6) (.t 8) },
    { dst := some 10, op := .mov (.t 9) },
    { dst := some 11, op := .iaddra 2 1 (.t 2) (.c (.int .i64 0)), guard := some (10, false) },
    { dst := some 12, op := .load none (.t 11), guard := some (10, false) },
    { dst := some 13, op := .iaddra 2 1 (.t 3) (.c (.int .i64 0)), guard := some (10, false) },
    { dst := some 14, op := .load none (.t 13), guard := some (10, false) },
    { dst := some 15, op := .bini .eql (.t 12) (.t 14), guard := some (10, false) },
    { dst := some 16, op := .mov (.t 15), guard := some (10, false) },
    { dst := some 17, op := .iaddra 2 1 (.t 2) (.c (.int .i64 1)), guard := some (16, true) },
    { dst := some 18, op := .load none (.t 17), guard := some (16, true) },
    { dst := some 19, op := .iaddra 2 1 (.t 3) (.c (.int .i64 1)), guard := some (16, true) },
    { dst := some 20, op := .load none (.t 19), guard := some (16, true) },
    { dst := some 21, op := .bini .lss (.t 18) (.t 20), guard := some (16, true) },
    { dst := some 22, op := .pick (.t 16) (.t 21) (.c (.bool false)), guard := some (10, false) },
    { dst := some 23, op := .pick (.t 10) (.c (.bool true)) (.t 22) },
    { dst := some 4, op := .mov (.t 23) }])
  (.ret)))) }
def p29l0 : PC := .loop (.cln [3, 4, 5] (.seq (.seq (.reg [{ dst := some 25, op := .mov (.t 3) },
    { dst := some 26, op := .lenl (.t 25) },
    { dst := some 27, op := .bini .gtr (.t 26) (.c (.int .i64 0)) },
    { dst := some 28, op := .mov (.t 27) },
    { dst := some 29, op := .mov (.t 4), guard := some (28, true) },
    { dst := some 30, op := .lenl (.t 29), guard := some (28, true) },
    { dst := some 31, op := .bini .gtr (.t 30) (.c (.int .i64 0)), guard := some (28, true) },
    { dst := some 32, op := .pick (.t 28) (.t 31) (.c (.bool false)) }])
  (.cond (.t 32) (.skip) (.exit 0)))
  (.cln [3, 4, 5] (.block 1 (.seq (.regd [{ ix := 0, o := { dst := some 33, op := .mov (.t 3) }, isC := false, anc := [], chk := [] },
    { ix := 1, o := { dst := some 34, op := .iaddr 2 (.t 33) (.c (.int .i64 0)) }, isC := false, anc := [0], chk := [] },
    { ix := 2, o := { dst := some 35, op := .load (some 2) (.t 34) }, isC := false, anc := [0, 1], chk := [] },
    { ix := 3, o := { dst := some 36, op := .mov (.t 4) }, isC := false, anc := [], chk := [] },
    { ix := 4, o := { dst := some 37, op := .iaddr 2 (.t 36) (.c (.int .i64 0)) }, isC := false, anc := [3], chk := [] },
    { ix := 5, o := { dst := some 38, op := .load (some 2) (.t 37) }, isC := false, anc := [3, 4], chk := [] },
    { ix := 6, o := { dst := some 39, op := .call (.c (.fn 32 [] [])) [.t 35, .t 38] }, isC := true, anc := [0, 1, 2, 3, 4, 5], chk := [] }] [0, 1, 2, 3, 4, 5, 6] 40)
  (.cond (.t 39) (.seq (.reg [{ dst := some 40, op := .mov (.t 5) },
    { dst := some 41, op := .mov (.t 3) },
    { dst := some 42, op := .iaddr 2 (.t 41) (.c (.int .i64 0)) },
    { dst := some 43, op := .load (some 2) (.t 42) },
    { dst := some 44, op := .bsl [.agg [.int .i64 0, .int .i64 0]] [(0, .t 43)] },
    { dst := some 45, op := .append 1 true 2 16 (.t 40) (.t 44) },
    { dst := some 5, op := .mov (.t 45) }])
  (.reg [{ dst := some 46, op := .mov (.t 3) },
    { dst := some 47, op := .slc 2 (.t 46) (some (.c (.int .i64 1))) none none },
    { dst := some 3, op := .mov (.t 47) }])) (.seq (.reg [{ dst := some 48, op := .mov (.t 5) },
    { dst := some 49, op := .mov (.t 4) },
    { dst := some 50, op := .iaddr 2 (.t 49) (.c (.int .i64 0)) },
    { dst := some 51, op := .load (some 2) (.t 50) },
    { dst := some 52, op := .bsl [.agg [.int .i64 0, .int .i64 0]] [(0, .t 51)] },
    { dst := some 53, op := .append 2 true 2 16 (.t 48) (.t 52) },
    { dst := some 5, op := .mov (.t 53) }])
  (.reg [{ dst := some 54, op := .mov (.t 4) },
    { dst := some 55, op := .slc 2 (.t 54) (some (.c (.int .i64 1))) none none },
    { dst := some 4, op := .mov (.t 55) }]))))))))
/-- frustum/assemble.sorted -/
def p29 : PFn := { nparams := 1, ntmps := 62, nobjs := 5, pure := true, keep := false, results := [⟨2, none⟩], body := (.cln (List.range 1) (.seq (.reg [{ dst := some 2, op := .mov (.c (.vs .nil [])) }])
  (.seq (.seq (.reg [{ dst := some 6, op := .mov (.t 0) },
    { dst := some 7, op := .lenl (.t 6) },
    { dst := some 8, op := .bini .lss (.t 7) (.c (.int .i64 2)) }])
  (.cond (.t 8) (.seq (.reg [{ dst := some 9, op := .frz (.t 0) },
    { dst := some 2, op := .mov (.t 9) }])
  (.ret)) (.skip)))
  (.cln [0] (.seq (.regd [{ ix := 0, o := { dst := some 10, op := .mov (.t 0) }, isC := false, anc := [], chk := [] },
    { ix := 1, o := { dst := some 11, op := .mov (.t 0) }, isC := false, anc := [], chk := [] },
    { ix := 2, o := { dst := some 12, op := .lenl (.t 11) }, isC := false, anc := [1], chk := [] },
    { ix := 3, o := { dst := some 13, op := .bini .quo (.t 12) (.c (.int .i64 2)) }, isC := false, anc := [1, 2], chk := [] },
    { ix := 4, o := { dst := some 14, op := .slc 2 (.t 10) none (some (.t 13)) none }, isC := false, anc := [0, 1, 2, 3], chk := [] },
    { ix := 6, o := { dst := some 16, op := .mov (.t 0) }, isC := false, anc := [], chk := [] },
    { ix := 7, o := { dst := some 17, op := .mov (.t 0) }, isC := false, anc := [], chk := [] },
    { ix := 8, o := { dst := some 18, op := .lenl (.t 17) }, isC := false, anc := [7], chk := [] },
    { ix := 9, o := { dst := some 19, op := .bini .quo (.t 18) (.c (.int .i64 2)) }, isC := false, anc := [7, 8], chk := [] },
    { ix := 10, o := { dst := some 20, op := .slc 2 (.t 16) (some (.t 19)) none none }, isC := false, anc := [6, 7, 8, 9], chk := [] },
    { ix := 5, o := { dst := some 15, op := .call (.c (.fn 29 [] [])) [.t 14] }, isC := true, anc := [0, 1, 2, 3, 4], chk := [8, 10] },
    { ix := 11, o := { dst := some 21, op := .call (.c (.fn 29 [] [])) [.t 20] }, isC := true, anc := [0, 1, 2, 3, 4, 5, 6, 7, 8, 9, 10], chk := [] },
    { ix := 12, o := { dst := some 3, op := .mov (.t 15) }, isC := false, anc := [0, 1, 2, 3, 4, 5, 6, 7, 8, 9, 10, 11], chk := [] },
    { ix := 13, o := { dst := some 4, op := .mov (.t 21) }, isC := false, anc := [0, 1, 2, 3, 4, 5, 6, 7, 8, 9, 10, 11, 12], chk := [] }] [0, 1, 2, 3, 4, 5, 6, 7, 8, 9, 10, 11, 12, 13] 22)
  (.seq (.reg [{ dst := some 22, op := .mov (.t 0) },
    { dst := some 23, op := .lenl (.t 22) },
    { dst := some 24, op := .mkslice 0 true 16 (.agg [.int .i64 0, .int .i64 0]) (.c (.int .i64 0)) (.t 23) },
    { dst := some 5, op := .mov (.t 24) }])
  (.seq (.block 0 (p29l0))
  (.cln [3, 4, 5] (.seq (.reg [{ dst := some 56, op := .mov (.t 5) },
    { dst := some 57, op := .mov (.t 3) },
    { dst := some 58, op := .append 3 true 2 16 (.t 56) (.t 57) },
    { dst := some 5, op := .mov (.t 58) }])
  (.seq (.reg [{ dst := some 59, op := .mov (.t 5) },
    { dst := some 60, op := .mov (.t 4) },
    { dst := some 61, op := .append 4 true 2 16 (.t 59) (.t 60) },
    { dst := some 2, op := .mov (.t 61) }])
  (.ret))))))))))) }
def p26l1 : PC := .loop (.cln [3, 4, 5, 6, 7, 18, 19, 20, 25] (.seq (.reg [{ dst := some 26, op := .bini .lss (.t 25) (.c (.int .i64 3)) }])
  (.seq (.cond (.t 26) (.skip) (.exit 2))
  (.cln [3, 4, 5, 6, 7, 18, 19, 20, 25] (.seq (.block 3 (.seq (.reg [{ dst := some 27, op := .mov (.t 25) },
    { dst := some 8, op := .mov (.t 27) }])
  (.seq (.regd [{ ix := 0, o := { dst := some 28, op := .mov (.t 8) }, isC := false, anc := [], chk := [] },
    { ix := 1, o := { dst := some 29, op := .iaddra 3 1 (.t 7) (.t 28) }, isC := false, anc := [0], chk := [] },
    { ix := 2, o := { dst := some 30, op := .load none (.t 29) }, isC := false, anc := [0, 1], chk := [] },
    { ix := 3, o := { dst := some 31, op := .mov (.t 8) }, isC := false, anc := [], chk := [] },
    { ix := 4, o := { dst := some 32, op := .bini .add (.t 31) (.c (.int .i64 1)) }, isC := false, anc := [3], chk := [] },
    { ix := 5, o := { dst := some 33, op := .bini .rem (.t 32) (.c (.int .i64 3)) }, isC := false, anc := [3, 4], chk := [] },
    { ix := 6, o := { dst := some 34, op := .iaddra 3 1 (.t 7) (.t 33) }, isC := false, anc := [3, 4, 5], chk := [] },
    { ix := 7, o := { dst := some 35, op := .load none (.t 34) }, isC := false, anc := [3, 4, 5, 6], chk := [] },
    { ix := 8, o := { dst := some 9, op := .mov (.t 30) }, isC := false, anc := [0, 1, 2], chk := [] },
    { ix := 9, o := { dst := some 10, op := .mov (.t 35) }, isC := false, anc := [0, 1, 2, 3, 4, 5, 6, 7, 8], chk := [] }] [0, 1, 2, 8, 3, 4, 5, 6, 7, 9] 36)
  (.seq (.reg [{ dst := some 36, op := .mov (.t 9) },
    { dst := some 37, op := .mov (.t 10) },
    { dst := some 38, op := .mn (.t 36) [.t 37] },
    { dst := some 39, op := .mov (.t 9) },
    { dst := some 40, op := .mov (.t 10) },
    { dst := some 41, op := .mx (.t 39) [.t 40] },
    { dst := some 42, op := .build [.int .i64 0, .int .i64 0] [(0, 1, .t 38), (1, 1, .t 41)] },
    { dst := some 11, op := .alloc 4 (.agg [.int .i64 0, .int .i64 0]) },
    { dst := none, op := .store (some 2) (.t 11) (.t 42) }])
  (.seq (.reg [{ dst := some 44, op := .mov (.t 4) },
    { dst := some 45, op := .load (some 2) (.t 11) },
    { dst := some 46, op := .lookup false (.int .i64 0) true (.t 44) (.t 45) },
    { dst := some 43, op := .mov (.t 46) },
    { dst := some 47, op := .extract (.t 43) 0 },
    { dst := some 48, op := .extract (.t 43) 1 },
    { dst := some 12, op := .mov (.t 47) },
    { dst := some 13, op := .mov (.t 48) }])
  (.seq (.seq (.reg [{ dst := some 49, op := .mov (.t 9) },
    { dst := some 50, op := .mov (.t 10) },
    { dst := some 51, op := .bini .eql (.t 49) (.t 50) },
    { dst := some 52, op := .mov (.t 51) },
    { dst := some 53, op := .mov (.t 13), guard := some (52, false) },
    { dst := some 54, op := .mov (.t 53), guard := some (52, false) },
    { dst := some 55, op := .mov (.t 12), guard := some (54, true) },
    { dst := some 56, op := .mov (.t 6), guard := some (54, true) },
    { dst := some 57, op := .bini .eql (.t 55) (.t 56), guard := some (54, true) },
    { dst := some 58, op := .pick (.t 54) (.t 57) (.c (.bool false)), guard := some (52, false) },
    { dst := some 59, op := .pick (.t 52) (.c (.bool true)) (.t 58) }])
  (.cond (.t 59) (.exit 3) (.skip)))
  (.cln [3, 4, 5, 6, 7, 11, 18, 19, 20, 25] (.seq (.reg [{ dst := some 60, op := .mov (.t 4) },
    { dst := some 61, op := .load (some 2) (.t 11) },
    { dst := some 62, op := .mov (.t 6) },
    { dst := none, op := .mupd false (.t 60) (.t 61) (.t 62) }])
  (.regd [{ ix := 0, o := { dst := some 63, op := .mov (.t 3) }, isC := false, anc := [], chk := [] },
    { ix := 1, o := { dst := some 64, op := .load (some 2) (.t 11) }, isC := false, anc := [], chk := [] },
    { ix := 2, o := { dst := some 65, op := .lookup false (.int .i64 0) false (.t 63) (.t 64) }, isC := false, anc := [0, 1], chk := [] },
    { ix := 3, o := { dst := some 66, op := .bini .add (.t 65) (.c (.int .i64 1)) }, isC := false, anc := [0, 1, 2], chk := [] },
    { ix := 4, o := { dst := some 67, op := .mentry (.int .i64 0) (.t 63) (.t 64) }, isC := true, anc := [0, 1], chk := [2] },
    { ix := 5, o := { dst := some 68, op := .extract (.t 67) 1 }, isC := false, anc := [0, 1, 4], chk := [] },
    { ix := 6, o := { dst := none, op := .estore (.t 63) (.t 68) (.t 66) }, isC := true, anc := [0, 1, 2, 3, 4, 5], chk := [] }] [0, 1, 2, 3, 4, 5, 6] 69)))))))))
  (.cln [3, 4, 5, 6, 7, 18, 19, 20, 25] (.reg [{ dst := some 69, op := .bini .add (.t 25) (.c (.int .i64 1)) },
    { dst := some 25, op := .mov (.t 69) }])))))))
def p26l0 : PC := .loop (.cln [3, 4, 5, 18, 19, 20] (.seq (.reg [{ dst := some 21, op := .bini .lss (.t 20) (.t 19) }])
  (.seq (.cond (.t 21) (.skip) (.exit 0))
  (.cln [3, 4, 5, 18, 19, 20] (.seq (.block 1 (.seq (.reg [{ dst := some 22, op := .mov (.t 20) },
    { dst := some 23, op := .iaddr 3 (.t 18) (.t 20) },
    { dst := some 24, op := .load (some 3) (.t 23) },
    { dst := some 7, op := .alloc 3 (.agg [.int .i64 0, .int .i64 0, .int .i64 0]) },
    { dst := some 6, op := .mov (.t 22) },
    { dst := none, op := .store (some 3) (.t 7) (.t 24) }])
  (.seq (.reg [{ dst := some 25, op := .mov (.c (.int .i64 0)) }])
  (.block 2 (p26l1)))))
  (.cln [3, 4, 5, 18, 19, 20] (.reg [{ dst := some 70, op := .bini .add (.t 20) (.c (.int .i64 1)) },
    { dst := some 20, op := .mov (.t 70) }])))))))
def p26l2 : PC := .loop (.cln [5, 72] (.seq (.reg [{ dst := some 73, op := .stop },
    { dst := some 74, op := .extract (.t 73) 0 }])
  (.seq (.cond (.t 74) (.skip) (.exit 4))
  (.cln [5, 72] (.block 5 (.seq (.reg [{ dst := some 75, op := .stop },
    { dst := some 76, op := .extract (.t 75) 0 },
    { dst := some 77, op := .extract (.t 75) 1 },
    { dst := some 14, op := .alloc 5 (.agg [.int .i64 0, .int .i64 0]) },
    { dst := none, op := .store (some 2) (.t 14) (.t 76) },
    { dst := some 15, op := .mov (.t 77) }])
  (.seq (.reg [{ dst := some 78, op := .mov (.t 15) },
    { dst := some 79, op := .bini .eql (.t 78) (.c (.int .i64 2)) }])
  (.cond (.t 79) (.reg [{ dst := some 80, op := .mov (.t 5) },
    { dst := some 81, op := .load (some 2) (.t 14) },
    { dst := some 82, op := .bsl [.agg [.int .i64 0, .int .i64 0]] [(0, .t 81)] },
    { dst := some 83, op := .append 6 true 2 16 (.t 80) (.t 82) },
    { dst := some 5, op := .mov (.t 83) }]) (.skip)))))))))
/-- frustum/assemble.Edges -/
def p26 : PFn := { nparams := 1, ntmps := 86, nobjs := 7, pure := true, keep := false, results := [⟨2, none⟩], body := (.cln (List.range 1) (.seq (.reg [{ dst := some 2, op := .mov (.c (.vs .nil [])) }])
  (.seq (.reg [{ dst := some 16, op := .mkmap 0 },
    { dst := some 3, op := .mov (.t 16) }])
  (.seq (.reg [{ dst := some 17, op := .mkmap 1 },
    { dst := some 4, op := .mov (.t 17) }])
  (.seq (.reg [{ dst := some 5, op := .vec 2 true 2 }])
  (.seq (.seq (.reg [{ dst := some 18, op := .mov (.t 0) },
    { dst := some 19, op := .lenl (.t 18) },
    { dst := some 20, op := .mov (.c (.int .i64 0)) }])
  (.block 0 (p26l0)))
  (.cln [3, 5] (.seq (.seq (.reg [{ dst := some 71, op := .mov (.t 3) },
    { dst := some 72, op := .stop }])
  (.block 4 (p26l2)))
  (.cln [5] (.seq (.reg [{ dst := some 84, op := .mov (.t 5) },
    { dst := some 85, op := .call (.c (.fn 29 [] [])) [.t 84] },
    { dst := some 2, op := .mov (.t 85) }])
  (.ret))))))))))) }
def p33l1 : PC := .loop (.cln [2, 3, 5, 6] (.seq (.seq (.reg [{ dst := some 11, op := .mov (.t 6) },
    { dst := some 12, op := .bini .lss (.t 11) (.c (.int .i64 3)) }])
  (.cond (.t 12) (.skip) (.exit 2)))
  (.cln [2, 3, 5, 6] (.seq (.block 3 (.seq (.regd [{ ix := 0, o := { dst := some 15, op := .mov (.t 5) }, isC := false, anc := [], chk := [] },
    { ix := 1, o := { dst := some 16, op := .mov (.t 6) }, isC := false, anc := [], chk := [] },
    { ix := 2, o := { dst := some 17, op := .bini .neq (.t 15) (.t 16) }, isC := false, anc := [0, 1], chk := [] },
    { ix := 3, o := { dst := some 18, op := .mov (.t 17) }, isC := false, anc := [0, 1, 2], chk := [] },
    { ix := 4, o := { dst := some 19, op := .mov (.t 5), guard := some (18, true) }, isC := false, anc := [0, 1, 2, 3], chk := [] },
    { ix := 5, o := { dst := some 20, op := .iaddra 3 1 (.t 2) (.t 19), guard := some (18, true) }, isC := false, anc := [0, 1, 2, 3, 4], chk := [] },
    { ix := 6, o := { dst := some 21, op := .load none (.t 20), guard := some (18, true) }, isC := false, anc := [0, 1, 2, 3, 4, 5], chk := [] },
    { ix := 7, o := { dst := some 22, op := .iaddra 2 1 (.t 3) (.c (.int .i64 0)), guard := some (18, true) }, isC := false, anc := [0, 1, 2, 3], chk := [] },
    { ix := 8, o := { dst := some 23, op := .load none (.t 22), guard := some (18, true) }, isC := false, anc := [0, 1, 2, 3, 7], chk := [] },
    { ix := 9, o := { dst := some 24, op := .bini .eql (.t 21) (.t 23), guard := some (18, true) }, isC := false, anc := [0, 1, 2, 3, 4, 5, 6, 7, 8], chk := [] },
    { ix := 10, o := { dst := some 25, op := .pick (.t 18) (.t 24) (.c (.bool false)) }, isC := false, anc := [0, 1, 2, 3, 4, 5, 6, 7, 8, 9], chk := [] },
    { ix := 11, o := { dst := some 26, op := .mov (.t 25) }, isC := false, anc := [0, 1, 2, 3, 4, 5, 6, 7, 8, 9, 10], chk := [] },
    { ix := 12, o := { dst := some 27, op := .mov (.t 6), guard := some (26, true) }, isC := false, anc := [0, 1, 2, 3, 4, 5, 6, 7, 8, 9, 10, 11], chk := [] },
    { ix := 13, o := { dst := some 28, op := .iaddra 3 1 (.t 2) (.t 27), guard := some (26, true) }, isC := false, anc := [0, 1, 2, 3, 4, 5, 6, 7, 8, 9, 10, 11, 12], chk := [] },
    { ix := 14, o := { dst := some 29, op := .load none (.t 28), guard := some (26, true) }, isC := false, anc := [0, 1, 2, 3, 4, 5, 6, 7, 8, 9, 10, 11, 12, 13], chk := [] },
    { ix := 15, o := { dst := some 30, op := .iaddra 2 1 (.t 3) (.c (.int .i64 1)), guard := some (26, true) }, isC := false, anc := [0, 1, 2, 3, 4, 5, 6, 7, 8, 9, 10, 11], chk := [] },
    { ix := 16, o := { dst := some 31, op := .load none (.t 30), guard := some (26, true) }, isC := false, anc := [0, 1, 2, 3, 4, 5, 6, 7, 8, 9, 10, 11, 15], chk := [] },
    { ix := 17, o := { dst := some 32, op := .bini .eql (.t 29) (.t 31), guard := some (26, true) }, isC := false, anc := [0, 1, 2, 3, 4, 5, 6, 7, 8, 9, 10, 11, 12, 13, 14, 15, 16], chk := [] },
    { ix := 18, o := { dst := some 33, op := .pick (.t 26) (.t 32) (.c (.bool false)) }, isC := false, anc := [0, 1, 2, 3, 4, 5, 6, 7, 8, 9, 10, 11, 12, 13, 14, 15, 16, 17], chk := [] }] [0, 1, 2, 3, 4, 5, 6, 7, 8, 9, 10, 11, 12, 13, 14, 15, 16, 17, 18] 34)
  (.cond (.t 33) (.seq (.reg [{ dst := some 4, op := .mov (.c (.bool true)) }])
  (.ret)) (.skip))))
  (.cln [2, 3, 5, 6] (.reg [{ dst := some 13, op := .mov (.t 6) },
    { dst := some 14, op := .bini .add (.t 13) (.c (.int .i64 1)) },
    { dst := some 6, op := .mov (.t 14) }]))))))
def p33l0 : PC := .loop (.cln [2, 3, 5] (.seq (.seq (.reg [{ dst := some 7, op := .mov (.t 5) },
    { dst := some 8, op := .bini .lss (.t 7) (.c (.int .i64 3)) }])
  (.cond (.t 8) (.skip) (.exit 0)))
  (.cln [2, 3, 5] (.seq (.block 1 (.seq (.reg [{ dst := some 6, op := .mov (.c (.int .i64 0)) }])
  (.block 2 (p33l1))))
  (.cln [2, 3, 5] (.reg [{ dst := some 9, op := .mov (.t 5) },
    { dst := some 10, op := .bini .add (.t 9) (.c (.int .i64 1)) },
    { dst := some 5, op := .mov (.t 10) }]))))))
/-- frustum/frustumref16.has -/
def p33 : PFn := { nparams := 2, ntmps := 34, nobjs := 0, pure := true, keep := false, results := [⟨4, none⟩], body := (.cln (List.range 2) (.seq (.reg [{ dst := some 2, op := .boxi (.t 0) },
    { dst := some 3, op := .boxi (.t 1) },
    { dst := some 4, op := .mov (.c (.bool false)) }])
  (.seq (.seq (.reg [{ dst := some 5, op := .mov (.c (.int .i64 0)) }])
  (.block 0 (p33l0)))
  (.cln [] (.seq (.reg [{ dst := some 4, op := .mov (.c (.bool false)) }])
  (.ret)))))) }
def p30l0 : PC := .loop (.cln [0, 3, 5, 6] (.seq (.seq (.reg [{ dst := some 7, op := .mov (.t 6) },
    { dst := some 8, op := .mov (.t 0) },
    { dst := some 9, op := .lenl (.t 8) },
    { dst := some 10, op := .bini .lss (.t 7) (.t 9) }])
  (.cond (.t 10) (.skip) (.exit 0)))
  (.cln [0, 3, 5, 6] (.seq (.block 1 (.seq (.regd [{ ix := 0, o := { dst := some 13, op := .mov (.t 0) }, isC := false, anc := [], chk := [] },
    { ix := 1, o := { dst := some 14, op := .mov (.t 6) }, isC := false, anc := [], chk := [] },
    { ix := 2, o := { dst := some 15, op := .iaddr 3 (.t 13) (.t 14) }, isC := false, anc := [0, 1], chk := [] },
    { ix := 3, o := { dst := some 16, op := .load (some 3) (.t 15) }, isC := false, anc := [0, 1, 2], chk := [] },
    { ix := 4, o := { dst := some 17, op := .load (some 2) (.t 3) }, isC := false, anc := [], chk := [] },
    { ix := 5, o := { dst := some 18, op := .call (.c (.fn 33 [] [])) [.t 16, .t 17] }, isC := true, anc := [0, 1, 2, 3, 4], chk := [] }] [0, 1, 2, 3, 4, 5] 19)
  (.cond (.t 18) (.reg [{ dst := some 19, op := .mov (.t 5) },
    { dst := some 20, op := .bini .add (.t 19) (.c (.int .i64 1)) },
    { dst := some 5, op := .mov (.t 20) }]) (.skip))))
  (.cln [0, 3, 5, 6] (.reg [{ dst := some 11, op := .mov (.t 6) },
    { dst := some 12, op := .bini .add (.t 11) (.c (.int .i64 1)) },
    { dst := some 6, op := .mov (.t 12) }]))))))
/-- frustum/frustumref16.Uses -/
def p30 : PFn := { nparams := 2, ntmps := 22, nobjs := 0, pure := true, keep := false, results := [⟨4, none⟩], body := (.cln (List.range 2) (.seq (.reg [{ dst := some 3, op := .boxi (.t 1) },
    { dst := some 4, op := .mov (.c (.int .i64 0)) }])
  (.seq (.reg [{ dst := some 5, op := .mov (.c (.int .i64 0)) }])
  (.seq (.seq (.reg [{ dst := some 6, op := .mov (.c (.int .i64 0)) }])
  (.block 0 (p30l0)))
  (.cln [5] (.seq (.reg [{ dst := some 21, op := .mov (.t 5) },
    { dst := some 4, op := .mov (.t 21) }])
  (.ret))))))) }
def p31l0 : PC := .loop (.cln [0, 3, 5] (.seq (.seq (.regd [{ ix := 0, o := { dst := some 7, op := .mov (.t 5) }, isC := false, anc := [], chk := [] },
    { ix := 1, o := { dst := some 8, op := .mov (.t 0) }, isC := false, anc := [], chk := [] },
    { ix := 2, o := { dst := some 9, op := .lenl (.t 8) }, isC := false, anc := [1], chk := [] },
    { ix := 3, o := { dst := some 10, op := .bini .lss (.t 7) (.t 9) }, isC := false, anc := [0, 1, 2], chk := [] },
    { ix := 4, o := { dst := some 11, op := .mov (.t 10) }, isC := false, anc := [0, 1, 2, 3], chk := [] },
    { ix := 5, o := { dst := some 12, op := .mov (.t 0), guard := some (11, true) }, isC := false, anc := [0, 1, 2, 3, 4], chk := [] },
    { ix := 6, o := { dst := some 13, op := .mov (.t 5), guard := some (11, true) }, isC := false, anc := [0, 1, 2, 3, 4], chk := [] },
    { ix := 7, o := { dst := some 14, op := .iaddr 2 (.t 12) (.t 13), guard := some (11, true) }, isC := false, anc := [0, 1, 2, 3, 4, 5, 6], chk := [] },
    { ix := 8, o := { dst := some 15, op := .iaddra 2 1 (.t 14) (.c (.int .i64 0)), guard := some (11, true) }, isC := false, anc := [0, 1, 2, 3, 4, 5, 6, 7], chk := [] },
    { ix := 9, o := { dst := some 16, op := .load none (.t 15), guard := some (11, true) }, isC := false, anc := [0, 1, 2, 3, 4, 5, 6, 7, 8], chk := [] },
    { ix := 10, o := { dst := some 17, op := .iaddra 2 1 (.t 3) (.c (.int .i64 0)), guard := some (11, true) }, isC := false, anc := [0, 1, 2, 3, 4], chk := [] },
    { ix := 11, o := { dst := some 18, op := .load none (.t 17), guard := some (11, true) }, isC := false, anc := [0, 1, 2, 3, 4, 10], chk := [] },
    { ix := 12, o := { dst := some 19, op := .bini .lss (.t 16) (.t 18), guard := some (11, true) }, isC := false, anc := [0, 1, 2, 3, 4, 5, 6, 7, 8, 9, 10, 11], chk := [] },
    { ix := 13, o := { dst := some 20, op := .mov (.t 19), guard := some (11, true) }, isC := false, anc := [0, 1, 2, 3, 4, 5, 6, 7, 8, 9, 10, 11, 12], chk := [] },
    { ix := 14, o := { dst := some 21, op := .mov (.t 0), guard := some (20, false) }, isC := false, anc := [0, 1, 2, 3, 4, 5, 6, 7, 8, 9, 10, 11, 12, 13], chk := [] },
    { ix := 15, o := { dst := some 22, op := .mov (.t 5), guard := some (20, false) }, isC := false, anc := [0, 1, 2, 3, 4, 5, 6, 7, 8, 9, 10, 11, 12, 13], chk := [] },
    { ix := 16, o := { dst := some 23, op := .iaddr 2 (.t 21) (.t 22), guard := some (20, false) }, isC := false, anc := [0, 1, 2, 3, 4, 5, 6, 7, 8, 9, 10, 11, 12, 13, 14, 15], chk := [] },
    { ix := 17, o := { dst := some 24, op := .iaddra 2 1 (.t 23) (.c (.int .i64 0)), guard := some (20, false) }, isC := false, anc := [0, 1, 2, 3, 4, 5, 6, 7, 8, 9, 10, 11, 12, 13, 14, 15, 16], chk := [] },
    { ix := 18, o := { dst := some 25, op := .load none (.t 24), guard := some (20, false) }, isC := false, anc := [0, 1, 2, 3, 4, 5, 6, 7, 8, 9, 10, 11, 12, 13, 14, 15, 16, 17], chk := [] },
    { ix := 19, o := { dst := some 26, op := .iaddra 2 1 (.t 3) (.c (.int .i64 0)), guard := some (20, false) }, isC := false, anc := [0, 1, 2, 3, 4, 5, 6, 7, 8, 9, 10, 11, 12, 13], chk := [] },
    { ix := 20, o := { dst := some 27, op := .load none (.t 26), guard := some (20, false) }, isC := false, anc := [0, 1, 2, 3, 4, 5, 6, 7, 8, 9, 10, 11, 12, 13, 19], chk := [] },
    { ix := 21, o := { dst := some 28, op := .bini .eql (.t 25) (.t 27), guard := some (20, false) }, isC := false, anc := [0, 1, 2, 3, 4, 5, 6, 7, 8, 9, 10, 11, 12, 13, 14, 15, 16, 17, 18, 19, 20], chk := [] },
    { ix := 22, o := { dst := some 29, op := .mov (.t 28), guard := some (20, false) }, isC := false, anc := [0, 1, 2, 3, 4, 5, 6, 7, 8, 9, 10, 11, 12, 13, 14, 15, 16, 17, 18, 19, 20, 21], chk := [] },
    { ix := 23, o := { dst := some 30, op := .mov (.t 0), guard := some (29, true) }, isC := false, anc := [0, 1, 2, 3, 4, 5, 6, 7, 8, 9, 10, 11, 12, 13, 14, 15, 16, 17, 18, 19, 20, 21, 22], chk := [] },
    { ix := 24, o := { dst := some 31, op := .mov (.t 5), guard := some (29, true) }, isC := false, anc := [0, 1, 2, 3, 4, 5, 6, 7, 8, 9, 10, 11, 12, 13, 14, 15, 16, 17, 18, 19, 20, 21, 22], chk := [] },
    { ix := 25, o := { dst := some 32, op := .iaddr 2 (.t 30) (.t 31), guard := some (29, true) }, isC := false, anc := [0, 1, 2, 3, 4, 5, 6, 7, 8, 9, 10, 11, 12, 13, 14, 15, 16, 17, 18, 19, 20, 21, 22, 23, 24], chk := [] },
    { ix := 26, o := { dst := some 33, op := .iaddra 2 1 (.t 32) (.c (.int .i64 1)), guard := some (29, true) }, isC := false, anc := [0, 1, 2, 3, 4, 5, 6, 7, 8, 9, 10, 11, 12, 13, 14, 15, 16, 17, 18, 19, 20, 21, 22, 23, 24, 25], chk := [] },
    { ix := 27, o := { dst := some 34, op := .load none (.t 33), guard := some (29, true) }, isC := false, anc := [0, 1, 2, 3, 4, 5, 6, 7, 8, 9, 10, 11, 12, 13, 14, 15, 16, 17, 18, 19, 20, 21, 22, 23, 24, 25, 26], chk := [] },
    { ix := 28, o := { dst := some 35, op := .iaddra 2 1 (.t 3) (.c (.int .i64 1)), guard := some (29, true) }, isC := false, anc := [0, 1, 2, 3, 4, 5, 6, 7, 8, 9, 10, 11, 12, 13, 14, 15, 16, 17, 18, 19, 20, 21, 22], chk := [] },
    { ix := 29, o := { dst := some 36, op := .load none (.t 35), guard := some (29, true) }, isC := false, anc := [0, 1, 2, 3, 4, 5, 6, 7, 8, 9, 10, 11, 12, 13, 14, 15, 16, 17, 18, 19, 20, 21, 22, 28], chk := [] },
    { ix := 30, o := { dst := some 37, op := .bini .lss (.t 34) (.t 36), guard := some (29, true) }, isC := false, anc := [0, 1, 2, 3, 4, 5, 6, 7, 8, 9, 10, 11, 12, 13, 14, 15, 16, 17, 18, 19, 20, 21, 22, 23, 24, 25, 26, 27, 28, 29], chk := [] },
    { ix := 31, o := { dst := some 38, op := .pick (.t 29) (.t 37) (.c (.bool false)), guard := some (20, false) }, isC := false, anc := [0, 1, 2, 3, 4, 5, 6, 7, 8, 9, 10, 11, 12, 13, 14, 15, 16, 17, 18, 19, 20, 21, 22, 23, 24, 25, 26, 27, 28, 29, 30], chk := [] },
    { ix := 32, o := { dst := some 39, op := .pick (.t 20) (.c (.bool true)) (.t 38), guard := some (11, true) }, isC := false, anc := [0, 1, 2, 3, 4, 5, 6, 7, 8, 9, 10, 11, 12, 13, 14, 15, 16, 17, 18, 19, 20, 21, 22, 23, 24, 25, 26, 27, 28, 29, 30, 31], chk := [] },
    { ix := 33, o := { dst := some 40, op := .pick (.t 11) (.t 39) (.c (.bool false)) }, isC := false, anc := [0, 1, 2, 3, 4, 5, 6, 7, 8, 9, 10, 11, 12, 13, 14, 15, 16, 17, 18, 19, 20, 21, 22, 23, 24, 25, 26, 27, 28, 29, 30, 31, 32], chk := [] }] [0, 1, 2, 3, 4, 5, 6, 7, 8, 9, 10, 11, 12, 13, 14, 15, 16, 17, 18, 19, 20, 21, 22, 23, 24, 25, 26, 27, 28, 29, 30, 31, 32, 33] 41)
  (.cond (.t 40) (.skip) (.exit 0)))
  (.cln [0, 3, 5] (.block 1 (.reg [{ dst := some 41, op := .mov (.t 5) },
    { dst := some 42, op := .bini .add (.t 41) (.c (.int .i64 1)) },
    { dst := some 5, op := .mov (.t 42) }])))))
/-- frustum/frustumref16.with -/
def p31 : PFn := { nparams := 2, ntmps := 70, nobjs := 4, pure := true, keep := false, results := [⟨4, none⟩], body := (.cln (List.range 2) (.seq (.reg [{ dst := some 3, op := .boxi (.t 1) },
    { dst := some 4, op := .mov (.c (.vs .nil [])) }])
  (.seq (.reg [{ dst := some 5, op := .mov (.c (.int .i64 0)) }])
  (.seq (.block 0 (p31l0))
  (.cln [0, 3, 5] (.seq (.seq (.regd [{ ix := 0, o := { dst := some 43, op := .mov (.t 5) }, isC := false, anc := [], chk := [] },
    { ix := 1, o := { dst := some 44, op := .mov (.t 0) }, isC := false, anc := [], chk := [] },
    { ix := 2, o := { dst := some 45, op := .lenl (.t 44) }, isC := false, anc := [1], chk := [] },
    { ix := 3, o := { dst := some 46, op := .bini .lss (.t 43) (.t 45) }, isC := false, anc := [0, 1, 2], chk := [] },
    { ix := 4, o := { dst := some 47, op := .mov (.t 46) }, isC := false, anc := [0, 1, 2, 3], chk := [] },
    { ix := 5, o := { dst := some 48, op := .mov (.t 0), guard := some (47, true) }, isC := false, anc := [0, 1, 2, 3, 4], chk := [] },
    { ix := 6, o := { dst := some 49, op := .mov (.t 5), guard := some (47, true) }, isC := false, anc := [0, 1, 2, 3, 4], chk := [] },
    { ix := 7, o := { dst := some 50, op := .iaddr 2 (.t 48) (.t 49), guard := some (47, true) }, isC := false, anc := [0, 1, 2, 3, 4, 5, 6], chk := [] },
    { ix := 8, o := { dst := some 51, op := .load (some 2) (.t 50), guard := some (47, true) }, isC := false, anc := [0, 1, 2, 3, 4, 5, 6, 7], chk := [] },
    { ix := 9, o := { dst := some 52, op := .load (some 2) (.t 3), guard := some (47, true) }, isC := false, anc := [0, 1, 2, 3, 4], chk := [] },
    { ix := 10, o := { dst := some 53, op := .eq false (.parts [(0, 1, .ei), (1, 1, .ei)]) (.t 51) (.t 52), guard := some (47, true) }, isC := false, anc := [0, 1, 2, 3, 4, 5, 6, 7, 8, 9], chk := [] },
    { ix := 11, o := { dst := some 54, op := .pick (.t 47) (.t 53) (.c (.bool false)) }, isC := false, anc := [0, 1, 2, 3, 4, 5, 6, 7, 8, 9, 10], chk := [] }] [0, 1, 2, 3, 4, 5, 6, 7, 8, 9, 10, 11] 55)
  (.cond (.t 54) (.seq (.reg [{ dst := some 55, op := .frz (.t 0) },
    { dst := some 4, op := .mov (.t 55) }])
  (.ret)) (.skip)))
  (.cln [0, 3, 5] (.seq (.reg [{ dst := some 6, op := .vec 0 true 2 }])
  (.seq (.reg [{ dst := some 56, op := .mov (.t 6) },
    { dst := some 57, op := .mov (.t 0) },
    { dst := some 58, op := .mov (.t 5) },
    { dst := some 59, op := .slc 2 (.t 57) none (some (.t 58)) none },
    { dst := some 60, op := .append 1 true 2 16 (.t 56) (.t 59) },
    { dst := some 6, op := .mov (.t 60) }])
  (.seq (.reg [{ dst := some 61, op := .mov (.t 6) },
    { dst := some 62, op := .load (some 2) (.t 3) },
    { dst := some 63, op := .bsl [.agg [.int .i64 0, .int .i64 0]] [(0, .t 62)] },
    { dst := some 64, op := .append 2 true 2 16 (.t 61) (.t 63) },
    { dst := some 6, op := .mov (.t 64) }])
  (.seq (.reg [{ dst := some 65, op := .mov (.t 6) },
    { dst := some 66, op := .mov (.t 0) },
    { dst := some 67, op := .mov (.t 5) },
    { dst := some 68, op := .slc 2 (.t 66) (some (.t 67)) none none },
    { dst := some 69, op := .append 3 true 2 16 (.t 65) (.t 68) },
    { dst := some 4, op := .mov (.t 69) }])
  (.ret)))))))))))) }
def p27l1 : PC := .loop (.cln [0, 3, 4, 5] (.seq (.seq (.reg [{ dst := some 15, op := .mov (.t 5) },
    { dst := some 16, op := .bini .lss (.t 15) (.c (.int .i64 3)) }])
  (.cond (.t 16) (.skip) (.exit 2)))
  (.cln [0, 3, 4, 5] (.seq (.block 3 (.seq (.regd [{ ix := 0, o := { dst := some 19, op := .mov (.t 0) }, isC := false, anc := [], chk := [] },
    { ix := 1, o := { dst := some 20, op := .mov (.t 4) }, isC := false, anc := [], chk := [] },
    { ix := 2, o := { dst := some 21, op := .mov (.t 5) }, isC := false, anc := [], chk := [] },
    { ix := 3, o := { dst := some 22, op := .iaddr 3 (.t 19) (.t 20) }, isC := false, anc := [0, 1], chk := [] },
    { ix := 4, o := { dst := some 23, op := .iaddra 3 1 (.t 22) (.t 21) }, isC := false, anc := [0, 1, 2, 3], chk := [] },
    { ix := 5, o := { dst := some 24, op := .load none (.t 23) }, isC := false, anc := [0, 1, 2, 3, 4], chk := [] },
    { ix := 6, o := { dst := some 25, op := .mov (.t 0) }, isC := false, anc := [], chk := [] },
    { ix := 7, o := { dst := some 26, op := .mov (.t 4) }, isC := false, anc := [], chk := [] },
    { ix := 8, o := { dst := some 27, op := .mov (.t 5) }, isC := false, anc := [], chk := [] },
    { ix := 9, o := { dst := some 28, op := .bini .add (.t 27) (.c (.int .i64 1)) }, isC := false, anc := [8], chk := [] },
    { ix := 10, o := { dst := some 29, op := .bini .rem (.t 28) (.c (.int .i64 3)) }, isC := false, anc := [8, 9], chk := [] },
    { ix := 11, o := { dst := some 30, op := .iaddr 3 (.t 25) (.t 26) }, isC := false, anc := [6, 7], chk := [] },
    { ix := 12, o := { dst := some 31, op := .iaddra 3 1 (.t 30) (.t 29) }, isC := false, anc := [6, 7, 8, 9, 10, 11], chk := [] },
    { ix := 13, o := { dst := some 32, op := .load none (.t 31) }, isC := false, anc := [6, 7, 8, 9, 10, 11, 12], chk := [] },
    { ix := 14, o := { dst := some 6, op := .mov (.t 24) }, isC := false, anc := [0, 1, 2, 3, 4, 5], chk := [] },
    { ix := 15, o := { dst := some 7, op := .mov (.t 32) }, isC := false, anc := [0, 1, 2, 3, 4, 5, 6, 7, 8, 9, 10, 11, 12, 13, 14], chk := [] }] [0, 1, 2, 3, 4, 5, 14, 6, 7, 8, 9, 10, 11, 12, 13, 15] 33)
  (.seq (.reg [{ dst := some 33, op := .mov (.t 6) },
    { dst := some 34, op := .mov (.t 7) },
    { dst := some 35, op := .mn (.t 33) [.t 34] },
    { dst := some 36, op := .mov (.t 6) },
    { dst := some 37, op := .mov (.t 7) },
    { dst := some 38, op := .mx (.t 36) [.t 37] },
    { dst := some 39, op := .build [.int .i64 0, .int .i64 0] [(0, 1, .t 35), (1, 1, .t 38)] },
    { dst := some 8, op := .alloc 0 (.agg [.int .i64 0, .int .i64 0]) },
    { dst := none, op := .store (some 2) (.t 8) (.t 39) }])
  (.seq (.reg [{ dst := some 40, op := .mov (.t 6) },
    { dst := some 41, op := .mov (.t 7) },
    { dst := some 42, op := .bini .neq (.t 40) (.t 41) },
    { dst := some 43, op := .mov (.t 42) },
    { dst := some 44, op := .mov (.t 0), guard := some (43, true) },
    { dst := some 45, op := .load (some 2) (.t 8), guard := some (43, true) },
    { dst := some 46, op := .call (.c (.fn 30 [] [])) [.t 44, .t 45], guard := some (43, true) },
    { dst := some 47, op := .bini .eql (.t 46) (.c (.int .i64 2)), guard := some (43, true) },
    { dst := some 48, op := .pick (.t 43) (.t 47) (.c (.bool false)) }])
  (.cond (.t 48) (.reg [{ dst := some 49, op := .mov (.t 3) },
    { dst := some 50, op := .load (some 2) (.t 8) },
    { dst := some 51, op := .call (.c (.fn 31 [] [])) [.t 49, .t 50] },
    { dst := some 3, op := .mov (.t 51) }]) (.skip))))))
  (.cln [0, 3, 4, 5] (.reg [{ dst := some 17, op := .mov (.t 5) },
    { dst := some 18, op := .bini .add (.t 17) (.c (.int .i64 1)) },
    { dst := some 5, op := .mov (.t 18) }]))))))
def p27l0 : PC := .loop (.cln [0, 3, 4] (.seq (.seq (.reg [{ dst := some 9, op := .mov (.t 4) },
    { dst := some 10, op := .mov (.t 0) },
    { dst := some 11, op := .lenl (.t 10) },
    { dst := some 12, op := .bini .lss (.t 9) (.t 11) }])
  (.cond (.t 12) (.skip) (.exit 0)))
  (.cln [0, 3, 4] (.seq (.block 1 (.seq (.reg [{ dst := some 5, op := .mov (.c (.int .i64 0)) }])
  (.block 2 (p27l1))))
  (.cln [0, 3, 4] (.reg [{ dst := some 13, op := .mov (.t 4) },
    { dst := some 14, op := .bini .add (.t 13) (.c (.int .i64 1)) },
    { dst := some 4, op := .mov (.t 14) }]))))))
/-- frustum/frustumref16.Edges -/
def p27 : PFn := { nparams := 1, ntmps := 53, nobjs := 1, pure := true, keep := false, results := [⟨2, none⟩], body := (.cln (List.range 1) (.seq (.reg [{ dst := some 2, op := .mov (.c (.vs .nil [])) }])
  (.seq (.reg [{ dst := some 3, op := .mov (.c (.vs .nil [])) }])
  (.seq (.seq (.reg [{ dst := some 4, op := .mov (.c (.int .i64 0)) }])
  (.block 0 (p27l0)))
  (.cln [3] (.seq (.reg [{ dst := some 52, op := .frz (.t 3) },
    { dst := some 2, op := .mov (.t 52) }])
  (.ret))))))) }
def p25l0 : PC := .loop (.cln [0, 1, 5] (.seq (.seq (.reg [{ dst := some 11, op := .mov (.t 5) },
    { dst := some 12, op := .mov (.t 0) },
    { dst := some 13, op := .lenl (.t 12) },
    { dst := some 14, op := .bini .lss (.t 11) (.t 13) }])
  (.cond (.t 14) (.skip) (.exit 0)))
  (.cln [0, 1, 5] (.seq (.block 1 (.seq (.regd [{ ix := 0, o := { dst := some 17, op := .mov (.t 0) }, isC := false, anc := [], chk := [] },
    { ix := 1, o := { dst := some 18, op := .mov (.t 5) }, isC := false, anc := [], chk := [] },
    { ix := 2, o := { dst := some 19, op := .iaddr 2 (.t 17) (.t 18) }, isC := false, anc := [0, 1], chk := [] },
    { ix := 3, o := { dst := some 20, op := .load (some 2) (.t 19) }, isC := false, anc := [0, 1, 2], chk := [] },
    { ix := 4, o := { dst := some 21, op := .mov (.t 1) }, isC := false, anc := [], chk := [] },
    { ix := 5, o := { dst := some 22, op := .mov (.t 5) }, isC := false, anc := [], chk := [] },
    { ix := 6, o := { dst := some 23, op := .iaddr 2 (.t 21) (.t 22) }, isC := false, anc := [4, 5], chk := [] },
    { ix := 7, o := { dst := some 24, op := .load (some 2) (.t 23) }, isC := false, anc := [4, 5, 6], chk := [] },
    { ix := 8, o := { dst := some 25, op := .eq true (.parts [(0, 1, .ei), (1, 1, .ei)]) (.t 20) (.t 24) }, isC := false, anc := [0, 1, 2, 3, 4, 5, 6, 7], chk := [] }] [0, 1, 2, 3, 4, 5, 6, 7, 8] 26)
  (.cond (.t 25) (.seq (.reg [{ dst := some 4, op := .mov (.c (.bool false)) }])
  (.ret)) (.skip))))
  (.cln [0, 1, 5] (.reg [{ dst := some 15, op := .mov (.t 5) },
    { dst := some 16, op := .bini .add (.t 15) (.c (.int .i64 1)) },
    { dst := some 5, op := .mov (.t 16) }]))))))
/-- frustum/frustumref16.SameEdges -/
def p25 : PFn := { nparams := 2, ntmps := 26, nobjs := 0, pure := true, keep := false, results := [⟨4, none⟩], body := (.cln (List.range 2) (.seq (.reg [{ dst := some 4, op := .mov (.c (.bool false)) }])
  (.seq (.seq (.reg [{ dst := some 6, op := .mov (.t 0) },
    { dst := some 7, op := .lenl (.t 6) },
    { dst := some 8, op := .mov (.t 1) },
    { dst := some 9, op := .lenl (.t 8) },
    { dst := some 10, op := .bini .neq (.t 7) (.t 9) }])
  (.cond (.t 10) (.seq (.reg [{ dst := some 4, op := .mov (.c (.bool false)) }])
  (.ret)) (.skip)))
  (.cln [0, 1] (.seq (.seq (.reg [{ dst := some 5, op := .mov (.c (.int .i64 0)) }])
  (.block 0 (p25l0)))
  (.cln [] (.seq (.reg [{ dst := some 4, op := .mov (.c (.bool true)) }])
  (.ret)))))))) }
/-- frustum/frustumlaw16.AssembleEdges -/
def p8 : PFn := { nparams := 1, ntmps := 11, nobjs := 0, pure := true, keep := false, results := [⟨2, none⟩], body := (.cln (List.range 1) (.seq (.reg [{ dst := some 2, op := .mov (.c (.bool false)) }])
  (.seq (.reg [{ dst := some 3, op := .mov (.t 0) },
    { dst := some 4, op := .call (.c (.fn 26 [] [])) [.t 3] },
    { dst := some 5, op := .mov (.t 0) },
    { dst := some 6, op := .call (.c (.fn 27 [] [])) [.t 5] },
    { dst := some 7, op := .call (.c (.fn 25 [] [])) [.t 4, .t 6] },
    { dst := some 8, op := .mov (.t 7) },
    { dst := some 9, op := .call (.c (.fn 19 [] [])) [], guard := some (8, true) },
    { dst := some 10, op := .pick (.t 8) (.t 9) (.c (.bool false)) },
    { dst := some 2, op := .mov (.t 10) }])
  (.ret)))) }
def p9l0 : PC := .loop (.cln [0, 1, 5, 6] (.seq (.seq (.reg [{ dst := some 11, op := .mov (.t 6) },
    { dst := some 12, op := .mov (.t 0) },
    { dst := some 13, op := .bini .rem (.t 12) (.c (.int .u8 40)) },
    { dst := some 14, op := .conv .i64 (.t 13) },
    { dst := some 15, op := .bini .lss (.t 11) (.t 14) }])
  (.cond (.t 15) (.skip) (.exit 0)))
  (.cln [0, 1, 5, 6] (.seq (.block 1 (.reg [{ dst := some 18, op := .mov (.t 5) },
    { dst := some 19, op := .mov (.t 1) },
    { dst := some 20, op := .conv .i64 (.t 19) },
    { dst := some 21, op := .mov (.t 6) },
    { dst := some 22, op := .bini .add (.t 20) (.t 21) },
    { dst := some 23, op := .bsl [.int .i64 0] [(0, .t 22)] },
    { dst := some 24, op := .append 1 true 1 8 (.t 18) (.t 23) },
    { dst := some 5, op := .mov (.t 24) }]))
  (.cln [0, 1, 5, 6] (.reg [{ dst := some 16, op := .mov (.t 6) },
    { dst := some 17, op := .bini .add (.t 16) (.c (.int .i64 1)) },
    { dst := some 6, op := .mov (.t 17) }]))))))
def p9l1 : PC := .loop (.cln [1, 7, 8] (.seq (.seq (.reg [{ dst := some 34, op := .mov (.t 8) },
    { dst := some 35, op := .bini .add (.t 34) (.c (.int .i64 1)) },
    { dst := some 36, op := .mov (.t 7) },
    { dst := some 37, op := .lenl (.t 36) },
    { dst := some 38, op := .bini .lss (.t 35) (.t 37) }])
  (.cond (.t 38) (.skip) (.exit 2)))
  (.cln [1, 7, 8] (.seq (.block 3 (.seq (.reg [{ dst := some 41, op := .mov (.t 1) },
    { dst := some 42, op := .conv .i64 (.t 41) },
    { dst := some 43, op := .mov (.t 8) },
    { dst := some 44, op := .bini .add (.t 42) (.t 43) },
    { dst := some 45, op := .bini .add (.t 44) (.c (.int .i64 1)) },
    { dst := some 46, op := .mov (.t 1) },
    { dst := some 47, op := .conv .i64 (.t 46) },
    { dst := some 48, op := .mov (.t 8) },
    { dst := some 49, op := .bini .add (.t 47) (.t 48) },
    { dst := some 50, op := .bini .add (.t 49) (.c (.int .i64 2)) },
    { dst := some 9, op := .mov (.t 45) },
    { dst := some 10, op := .mov (.t 50) }])
  (.seq (.reg [{ dst := some 51, op := .mov (.t 7) },
    { dst := some 52, op := .mov (.t 8) },
    { dst := some 53, op := .iaddr 3 (.t 51) (.t 52) },
    { dst := some 54, op := .load (some 3) (.t 53) },
    { dst := some 55, op := .mov (.t 9) },
    { dst := some 56, op := .mov (.t 10) },
    { dst := some 57, op := .call (.c (.fn 24 [] [])) [.t 54, .t 55, .t 56] },
    { dst := some 58, op := .mov (.t 57) },
    { dst := some 59, op := .mov (.t 7), guard := some (58, true) },
    { dst := some 60, op := .mov (.t 8), guard := some (58, true) },
    { dst := some 61, op := .bini .add (.t 60) (.c (.int .i64 1)), guard := some (58, true) },
    { dst := some 62, op := .iaddr 3 (.t 59) (.t 61), guard := some (58, true) },
    { dst := some 63, op := .load (some 3) (.t 62), guard := some (58, true) },
    { dst := some 64, op := .mov (.t 10), guard := some (58, true) },
    { dst := some 65, op := .mov (.t 9), guard := some (58, true) },
    { dst := some 66, op := .call (.c (.fn 24 [] [])) [.t 63, .t 64, .t 65], guard := some (58, true) },
    { dst := some 67, op := .pick (.t 58) (.t 66) (.c (.bool false)) },
    { dst := some 68, op := .mov (.t 67) },
    { dst := some 69, op := .mov (.t 7), guard := some (68, false) },
    { dst := some 70, op := .mov (.t 8), guard := some (68, false) },
    { dst := some 71, op := .iaddr 3 (.t 69) (.t 70), guard := some (68, false) },
    { dst := some 72, op := .load (some 3) (.t 71), guard := some (68, false) },
    { dst := some 73, op := .mov (.t 10), guard := some (68, false) },
    { dst := some 74, op := .mov (.t 9), guard := some (68, false) },
    { dst := some 75, op := .call (.c (.fn 24 [] [])) [.t 72, .t 73, .t 74], guard := some (68, false) },
    { dst := some 76, op := .mov (.t 75), guard := some (68, false) },
    { dst := some 77, op := .mov (.t 7), guard := some (76, true) },
    { dst := some 78, op := .mov (.t 8), guard := some (76, true) },
    { dst := some 79, op := .bini .add (.t 78) (.c (.int .i64 1)), guard := some (76, true) },
    { dst := some 80, op := .iaddr 3 (.t 77) (.t 79), guard := some (76, true) },
    { dst := some 81, op := .load (some 3) (.t 80), guard := some (76, true) },
    { dst := some 82, op := .mov (.t 9), guard := some (76, true) },
    { dst := some 83, op := .mov (.t 10), guard := some (76, true) },
    { dst := some 84, op := .call (.c (.fn 24 [] [])) [.t 81, .t 82, .t 83], guard := some (76, true) },
    { dst := some 85, op := .pick (.t 76) (.t 84) (.c (.bool false)), guard := some (68, false) },
    { dst := some 86, op := .pick (.t 68) (.c (.bool true)) (.t 85) },
    { dst := some 87, op := .notb (.t 86) }])
  (.cond (.t 87) (.seq (.reg [{ dst := some 4, op := .mov (.c (.bool false)) }])
  (.ret)) (.skip)))))
  (.cln [1, 7, 8] (.reg [{ dst := some 39, op := .mov (.t 8) },
    { dst := some 40, op := .bini .add (.t 39) (.c (.int .i64 1)) },
    { dst := some 8, op := .mov (.t 40) }]))))))
/-- frustum/frustumlaw16.AssembleStripOrientation -/
def p9 : PFn := { nparams := 2, ntmps := 103, nobjs := 2, pure := true, keep := false, results := [⟨4, none⟩], body := (.cln (List.range 2) (.seq (.reg [{ dst := some 4, op := .mov (.c (.bool false)) }])
  (.seq (.reg [{ dst := some 5, op := .vec 0 true 1 }])
  (.seq (.seq (.reg [{ dst := some 6, op := .mov (.c (.int .i64 0)) }])
  (.block 0 (p9l0)))
  (.cln [1, 5] (.seq (.reg [{ dst := some 25, op := .mov (.t 5) },
    { dst := some 26, op := .call (.c (.fn 13 [] [])) [.c (.int .i64 2), .t 25] },
    { dst := some 7, op := .mov (.t 26) }])
  (.seq (.seq (.reg [{ dst := some 27, op := .mov (.t 7) },
    { dst := some 28, op := .lenl (.t 27) },
    { dst := some 29, op := .mov (.t 5) },
    { dst := some 30, op := .lenl (.t 29) },
    { dst := some 31, op := .bini .sub (.t 30) (.c (.int .i64 2)) },
    { dst := some 32, op := .mx (.c (.int .i64 0)) [.t 31] },
    { dst := some 33, op := .bini .neq (.t 28) (.t 32) }])
  (.cond (.t 33) (.seq (.reg [{ dst := some 4, op := .mov (.c (.bool false)) }])
  (.ret)) (.skip)))
  (.cln [1, 7] (.seq (.seq (.reg [{ dst := some 8, op := .mov (.c (.int .i64 0)) }])
  (.block 2 (p9l1)))
  (.cln [7] (.seq (.reg [{ dst := some 88, op := .mov (.t 7) },
    { dst := some 89, op := .lenl (.t 88) },
    { dst := some 90, op := .bini .lss (.t 89) (.c (.int .i64 1)) },
    { dst := some 91, op := .mov (.t 90) },
    { dst := some 92, op := .mov (.t 7), guard := some (91, false) },
    { dst := some 93, op := .call (.c (.fn 26 [] [])) [.t 92], guard := some (91, false) },
    { dst := some 94, op := .lenl (.t 93), guard := some (91, false) },
    { dst := some 95, op := .mov (.t 7), guard := some (91, false) },
    { dst := some 96, op := .lenl (.t 95), guard := some (91, false) },
    { dst := some 97, op := .bini .sub (.t 96) (.c (.int .i64 1)), guard := some (91, false) },
    { dst := some 98, op := .bini .eql (.t 94) (.t 97), guard := some (91, false) },
    { dst := some 99, op := .pick (.t 91) (.c (.bool true)) (.t 98) },
    { dst := some 100, op := .mov (.t 99) },
    { dst := some 101, op := .call (.c (.fn 19 [] [])) [], guard := some (100, true) },
    { dst := some 102, op := .pick (.t 100) (.t 101) (.c (.bool false)) },
    { dst := some 4, op := .mov (.t 102) }])
  (.ret)))))))))))) }
def table : List (Nat × PFn) := [(17, p17), (15, p15), (10, p10), (18, p18), (16, p16), (28, p28), (11, p11), (21, p21), (13, p13), (22, p22), (14, p14), (12, p12), (19, p19), (3, p3), (20, p20), (4, p4), (5, p5), (6, p6), (23, p23), (24, p24), (7, p7), (32, p32), (29, p29), (33, p33), (30, p30), (31, p31), (27, p27), (25, p25), (8, p8), (9, p9)]
def pf (n : Nat) : Option PFn := table.lookup n
end Go.VI.S
