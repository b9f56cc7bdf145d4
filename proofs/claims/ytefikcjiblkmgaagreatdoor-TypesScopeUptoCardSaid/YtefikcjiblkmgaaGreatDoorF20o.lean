/- Chapter 20: built-in functions of values. -/
import Derived.Test.YtefikcjiblkmgaaGreatDoorF20n
import Derived.Test.YtefikcjiblkmgaaGreatDoorVi46
set_option maxRecDepth 100000
set_option linter.unusedSimpArgs false
set_option linter.unusedVariables false
set_option pp.deepTerms.threshold 4
set_option pp.deepTerms false
namespace Go.VI.S
open Go.VI
theorem equal_own (f : Fl) (ts : List Ty) (t0 : Ty) (hb : ts.length ≤ 1048576) (o0 o1 o3 : Option Ob) : doCall E (callR E) 160 [.vs f (tys ts), .ptr (0, 2) 1 0 0] [[o0, o1, some (.mem [.agg [.int .i64 t0.kind, .str t0.name]] 1 false 2), o3]] = some (.bool (allSame ts t0), [[o0, o1, some (.mem [.agg [.int .i64 t0.kind, .str t0.name]] 1 false 2), o3]]) := by
  refine call_snap (pf := p160) (args' := [.vs f (tys ts), .ip [.int .i64 t0.kind, .str t0.name]]) rfl rfl (by simp [PV.lowL, PV.low, tys_low]; rfl) ?_ (by simp [PV.lowL, PV.low, tys_low]) (equal_ok f ts t0 hb _) rfl
  simp [mapO, snap, PV.low, PV.lowL, tys_low, hget, PV.cells]
theorem equal1_own (f : Fl) (a t0 : Ty) (o0 o1 o3 : Option Ob) : doCall E (callR E) 160 [.vs f [.agg [.int .i64 a.kind, .str a.name]], .ptr (0, 2) 1 0 0] [[o0, o1, some (.mem [.agg [.int .i64 t0.kind, .str t0.name]] 1 false 2), o3]] = some (.bool (allSame [a] t0), [[o0, o1, some (.mem [.agg [.int .i64 t0.kind, .str t0.name]] 1 false 2), o3]]) := equal_own f [a] t0 (by simp) o0 o1 o3
theorem equal2_own (f : Fl) (a b t0 : Ty) (o0 o1 o3 : Option Ob) : doCall E (callR E) 160 [.vs f [.agg [.int .i64 a.kind, .str a.name], .agg [.int .i64 b.kind, .str b.name]], .ptr (0, 2) 1 0 0] [[o0, o1, some (.mem [.agg [.int .i64 t0.kind, .str t0.name]] 1 false 2), o3]] = some (.bool (allSame [a, b] t0), [[o0, o1, some (.mem [.agg [.int .i64 t0.kind, .str t0.name]] 1 false 2), o3]]) := equal_own f [a, b] t0 (by simp) o0 o1 o3
theorem equal3_own (f : Fl) (a b c t0 : Ty) (o0 o1 o3 : Option Ob) : doCall E (callR E) 160 [.vs f [.agg [.int .i64 a.kind, .str a.name], .agg [.int .i64 b.kind, .str b.name], .agg [.int .i64 c.kind, .str c.name]], .ptr (0, 2) 1 0 0] [[o0, o1, some (.mem [.agg [.int .i64 t0.kind, .str t0.name]] 1 false 2), o3]] = some (.bool (allSame [a, b, c] t0), [[o0, o1, some (.mem [.agg [.int .i64 t0.kind, .str t0.name]] 1 false 2), o3]]) := equal_own f [a, b, c] t0 (by simp) o0 o1 o3
def two : List Str := [[109, 105, 110], [109, 97, 120]]
def nineL : List Str := [[109, 105, 110], [109, 97, 120], [99, 108, 97, 109, 112], [97, 98, 115], [102, 108, 111, 111, 114], [102, 114, 97, 99, 116], [115, 113, 114, 116], [100, 111, 116], [109, 105, 120]]
def cntF (nm : Str) : Nat := if nm = [99, 108, 97, 109, 112] ∨ nm = [109, 105, 120] then 3 else if nm = [109, 105, 110] ∨ nm = [109, 97, 120] ∨ nm = [100, 111, 116] then 2 else 1
def fixT : Ty := ⟨1, []⟩
def builtinF (nm : Str) (ts : List Ty) : Ty × Int :=
  if ts.length ≠ cntF nm then (tz, 11)
  else if nm = [109, 105, 110] ∨ nm = [109, 97, 120] ∨ nm = [99, 108, 97, 109, 112] ∨ nm = [97, 98, 115] then typedF (allSame ts (ts.getD 0 tz) && isNm (ts.getD 0 tz).kind) (ts.getD 0 tz)
  else if nm = [100, 111, 116] then typedF (allSame ts (ts.getD 0 tz) && isVc (ts.getD 0 tz).kind) ⟨1, []⟩
  else if nm = [109, 105, 120] then typedF (allSame (ts.take 2) (ts.getD 0 tz) && (decide (ts.getD 2 tz = ⟨1, []⟩) && (decide (ts.getD 0 tz = ⟨1, []⟩) || isVc (ts.getD 0 tz).kind))) (ts.getD 0 tz)
  else typedF (decide (ts.getD 0 tz = ⟨1, []⟩)) ⟨1, []⟩
theorem tys2 {a b : Ty} : tys [a, b] = [.agg [.int .i64 a.kind, .str a.name], .agg [.int .i64 b.kind, .str b.name]] := rfl
theorem tys3 {a b c : Ty} : tys [a, b, c] = [.agg [.int .i64 a.kind, .str a.name], .agg [.int .i64 b.kind, .str b.name], .agg [.int .i64 c.kind, .str c.name]] := rfl
theorem typed_okd (b : Bool) (k : Int) (n : Str) (h : Heap) : doCall E (callR E) 125 [.bool b, .agg [.int .i64 k, .str n]] h = some (encR (typedF b ⟨k, n⟩), h) := typed_ok b ⟨k, n⟩ h
theorem len1 {ts : List Ty} (h : ts.length = 1) : ∃ a, ts = [a] := List.length_eq_one_iff.1 h
theorem len2 {ts : List Ty} (h : ts.length = 2) : ∃ a b, ts = [a, b] := by
  match ts, h with
  | [a, b], _ => exact ⟨a, b, rfl⟩
theorem len3 {ts : List Ty} (h : ts.length = 3) : ∃ a b c, ts = [a, b, c] := by
  match ts, h with
  | [a, b, c], _ => exact ⟨a, b, c, rfl⟩
set_option maxHeartbeats 8000000 in
theorem bltin_ok (f : Fl) (ts : List Ty) (hb : ts.length ≤ 1048576) (nm : Str) (hn : nm ∈ nineL) (h : Heap) : doCall E (callR E) 132 [.str nm, .vs f (tys ts)] h = some (encR (builtinF nm ts), h) := by
  refine call_pure (pf := p132) rfl rfl rfl rfl (by simp [PV.lowL, PV.low, tys_low]) (by simp [PV.low, PV.lowL, tys_low]) ?_ h
  show kQ E _ (endQ [⟨4, some (some 2)⟩, ⟨5, none⟩] _) .norm { lvl := 0, tmps := mk 87 [(0, .str nm), (1, .vs f (tys ts))], heap := [[none, none, none, none]], defers := [] }
  have pu28 : pureB E 28 = true := rfl
  have pu84 : pureB E 84 = true := rfl
  have pu126 : pureB E 126 = true := rfl
  with_reducible refine K_seq' ?_
  repeat' first
      | with_reducible refine condK_split (fun _ => ?_) (fun _ => ?_)
      | with_reducible refine optK_gsplit (fun _ => ?_) (fun _ => ?_)
      | with_reducible refine optD_gsplit (fun _ => ?_) (fun _ => ?_)
      | ((with_reducible refine K_keep ?_ ?_); · rfl)
      | (simp -implicitDefEqProofs (disch := first | omega | assumption) only [push_cast, ↓reduceIte, Nat.reduceEqDiff, Nat.reduceLT, Nat.reduceLeDiff, Nat.reduceAdd, reduceCtorEq, Nat.reduceBEq, ← decide_not, Int.reduceAdd, Int.reduceSub, Int.reduceMul, Int.reduceNeg, Int.reduceTMod, Int.reduceTDiv, Int.reduceLT, Int.reduceLE, Int.reduceEq, Int.reduceToNat, Nat.reduceMul, Nat.reduceSub, eqTop, eqShL, eqSh])
      | with_reducible refine condK_bsplit (fun _ => ?_) (fun _ => ?_)
      | with_reducible refine optK_bsplit (fun _ => ?_) (fun _ => ?_)
      | with_reducible refine optD_bsplit (fun _ => ?_) (fun _ => ?_)
  with_reducible refine K_seq' ?_
  repeat' first
      | with_reducible refine condK_split (fun _ => ?_) (fun _ => ?_)
      | with_reducible refine optK_gsplit (fun _ => ?_) (fun _ => ?_)
      | with_reducible refine optD_gsplit (fun _ => ?_) (fun _ => ?_)
      | ((with_reducible refine K_keep ?_ ?_); · rfl)
      | (simp -implicitDefEqProofs (disch := first | omega | assumption) only [push_cast, ↓reduceIte, Nat.reduceEqDiff, Nat.reduceLT, Nat.reduceLeDiff, Nat.reduceAdd, reduceCtorEq, Nat.reduceBEq, ← decide_not, Int.reduceAdd, Int.reduceSub, Int.reduceMul, Int.reduceNeg, Int.reduceTMod, Int.reduceTDiv, Int.reduceLT, Int.reduceLE, Int.reduceEq, Int.reduceToNat, Nat.reduceMul, Nat.reduceSub, eqTop, eqShL, eqSh, findE, setE, keySame, keyIs, l_beq, l_beq0, l_beq1, l_beq2, UInt8.reduceToNat, Option.isSome_some, Option.isSome_none, Option.getD_some, Option.getD_none])
      | with_reducible refine condK_bsplit (fun _ => ?_) (fun _ => ?_)
      | with_reducible refine optK_bsplit (fun _ => ?_) (fun _ => ?_)
      | with_reducible refine optD_bsplit (fun _ => ?_) (fun _ => ?_)
  simp only [nineL, List.mem_cons, List.not_mem_nil, or_false] at hn
  by_cases hl : ts.length = cntF nm
  · rcases hn with hn | hn | hn | hn | hn | hn | hn | hn | hn
    · subst hn
      obtain ⟨a, b, rfl⟩ := len2 hl
      cases hs : allSame [a, b] a
      all_goals
        repeat' first
            | with_reducible refine condK_split (fun _ => ?_) (fun _ => ?_)
            | with_reducible refine optK_gsplit (fun _ => ?_) (fun _ => ?_)
            | with_reducible refine optD_gsplit (fun _ => ?_) (fun _ => ?_)
            | ((with_reducible refine K_keep ?_ ?_); · rfl)
            | (simp -implicitDefEqProofs (disch := first | omega | assumption) only [push_cast, ↓reduceIte, Nat.reduceEqDiff, Nat.reduceLT, Nat.reduceLeDiff, Nat.reduceAdd, reduceCtorEq, Nat.reduceBEq, ← decide_not, Int.reduceAdd, Int.reduceSub, Int.reduceMul, Int.reduceNeg, Int.reduceTMod, Int.reduceTDiv, Int.reduceLT, Int.reduceLE, Int.reduceEq, Int.reduceToNat, Nat.reduceMul, Nat.reduceSub, K_seq, hs, ty_eq, ty_eta, tys1, tys2, tys3, tys_len, findE, setE, keySame, keyIs, l_beq, l_beq0, l_beq1, l_beq2, UInt8.reduceToNat, Option.isSome_some, Option.isSome_none, Option.getD_some, Option.getD_none, kind_ok, equal1_own, equal2_own, equal3_own, num_ok, vc_ok, typed_okc, boundsE, bound, binS, stabG, stabS, same_agg, same_ip, same_int, same_bool, same_str, same_vs, same_sl, same_ptr, sameL_nil, sameL_cons])
            | with_reducible refine condK_bsplit (fun _ => ?_) (fun _ => ?_)
            | with_reducible refine optK_bsplit (fun _ => ?_) (fun _ => ?_)
            | with_reducible refine optD_bsplit (fun _ => ?_) (fun _ => ?_)
            | with_reducible refine optD_chk ?_ ?_
            | with_reducible refine chkQ_out (by decide) ?_
            | with_reducible refine chkQ_in' (by decide) ?_ ?_
            | with_reducible exact chkQ_end
            | with_reducible refine stab1_eq ?_
            | with_reducible refine optQ_some' ?_
      all_goals first | (simp [builtinF, cntF, hs, typedF, *]; done) | (subst_vars; simp_all [builtinF, cntF, typedF, isVc]; done)
    · subst hn
      obtain ⟨a, b, rfl⟩ := len2 hl
      cases hs : allSame [a, b] a
      all_goals
        repeat' first
            | with_reducible refine condK_split (fun _ => ?_) (fun _ => ?_)
            | with_reducible refine optK_gsplit (fun _ => ?_) (fun _ => ?_)
            | with_reducible refine optD_gsplit (fun _ => ?_) (fun _ => ?_)
            | ((with_reducible refine K_keep ?_ ?_); · rfl)
            | (simp -implicitDefEqProofs (disch := first | omega | assumption) only [push_cast, ↓reduceIte, Nat.reduceEqDiff, Nat.reduceLT, Nat.reduceLeDiff, Nat.reduceAdd, reduceCtorEq, Nat.reduceBEq, ← decide_not, Int.reduceAdd, Int.reduceSub, Int.reduceMul, Int.reduceNeg, Int.reduceTMod, Int.reduceTDiv, Int.reduceLT, Int.reduceLE, Int.reduceEq, Int.reduceToNat, Nat.reduceMul, Nat.reduceSub, K_seq, hs, ty_eq, ty_eta, tys1, tys2, tys3, tys_len, findE, setE, keySame, keyIs, l_beq, l_beq0, l_beq1, l_beq2, UInt8.reduceToNat, Option.isSome_some, Option.isSome_none, Option.getD_some, Option.getD_none, kind_ok, equal1_own, equal2_own, equal3_own, num_ok, vc_ok, typed_okc, boundsE, bound, binS, stabG, stabS, same_agg, same_ip, same_int, same_bool, same_str, same_vs, same_sl, same_ptr, sameL_nil, sameL_cons])
            | with_reducible refine condK_bsplit (fun _ => ?_) (fun _ => ?_)
            | with_reducible refine optK_bsplit (fun _ => ?_) (fun _ => ?_)
            | with_reducible refine optD_bsplit (fun _ => ?_) (fun _ => ?_)
            | with_reducible refine optD_chk ?_ ?_
            | with_reducible refine chkQ_out (by decide) ?_
            | with_reducible refine chkQ_in' (by decide) ?_ ?_
            | with_reducible exact chkQ_end
            | with_reducible refine stab1_eq ?_
            | with_reducible refine optQ_some' ?_
      all_goals first | (simp [builtinF, cntF, hs, typedF, *]; done) | (subst_vars; simp_all [builtinF, cntF, typedF, isVc]; done)
    · subst hn
      obtain ⟨a, b, c, rfl⟩ := len3 hl
      cases hs : allSame [a, b, c] a
      all_goals
        repeat' first
            | with_reducible refine condK_split (fun _ => ?_) (fun _ => ?_)
            | with_reducible refine optK_gsplit (fun _ => ?_) (fun _ => ?_)
            | with_reducible refine optD_gsplit (fun _ => ?_) (fun _ => ?_)
            | ((with_reducible refine K_keep ?_ ?_); · rfl)
            | (simp -implicitDefEqProofs (disch := first | omega | assumption) only [push_cast, ↓reduceIte, Nat.reduceEqDiff, Nat.reduceLT, Nat.reduceLeDiff, Nat.reduceAdd, reduceCtorEq, Nat.reduceBEq, ← decide_not, Int.reduceAdd, Int.reduceSub, Int.reduceMul, Int.reduceNeg, Int.reduceTMod, Int.reduceTDiv, Int.reduceLT, Int.reduceLE, Int.reduceEq, Int.reduceToNat, Nat.reduceMul, Nat.reduceSub, K_seq, hs, ty_eq, ty_eta, tys1, tys2, tys3, tys_len, findE, setE, keySame, keyIs, l_beq, l_beq0, l_beq1, l_beq2, UInt8.reduceToNat, Option.isSome_some, Option.isSome_none, Option.getD_some, Option.getD_none, kind_ok, equal1_own, equal2_own, equal3_own, num_ok, vc_ok, typed_okc, boundsE, bound, binS, stabG, stabS, same_agg, same_ip, same_int, same_bool, same_str, same_vs, same_sl, same_ptr, sameL_nil, sameL_cons])
            | with_reducible refine condK_bsplit (fun _ => ?_) (fun _ => ?_)
            | with_reducible refine optK_bsplit (fun _ => ?_) (fun _ => ?_)
            | with_reducible refine optD_bsplit (fun _ => ?_) (fun _ => ?_)
            | with_reducible refine optD_chk ?_ ?_
            | with_reducible refine chkQ_out (by decide) ?_
            | with_reducible refine chkQ_in' (by decide) ?_ ?_
            | with_reducible exact chkQ_end
            | with_reducible refine stab1_eq ?_
            | with_reducible refine optQ_some' ?_
      all_goals first | (simp [builtinF, cntF, hs, typedF, *]; done) | (subst_vars; simp_all [builtinF, cntF, typedF, isVc]; done)
    · subst hn
      obtain ⟨a, rfl⟩ := len1 hl
      cases hs : allSame [a] a
      all_goals
        repeat' first
            | with_reducible refine condK_split (fun _ => ?_) (fun _ => ?_)
            | with_reducible refine optK_gsplit (fun _ => ?_) (fun _ => ?_)
            | with_reducible refine optD_gsplit (fun _ => ?_) (fun _ => ?_)
            | ((with_reducible refine K_keep ?_ ?_); · rfl)
            | (simp -implicitDefEqProofs (disch := first | omega | assumption) only [push_cast, ↓reduceIte, Nat.reduceEqDiff, Nat.reduceLT, Nat.reduceLeDiff, Nat.reduceAdd, reduceCtorEq, Nat.reduceBEq, ← decide_not, Int.reduceAdd, Int.reduceSub, Int.reduceMul, Int.reduceNeg, Int.reduceTMod, Int.reduceTDiv, Int.reduceLT, Int.reduceLE, Int.reduceEq, Int.reduceToNat, Nat.reduceMul, Nat.reduceSub, K_seq, hs, ty_eq, ty_eta, tys1, tys2, tys3, tys_len, findE, setE, keySame, keyIs, l_beq, l_beq0, l_beq1, l_beq2, UInt8.reduceToNat, Option.isSome_some, Option.isSome_none, Option.getD_some, Option.getD_none, kind_ok, equal1_own, equal2_own, equal3_own, num_ok, vc_ok, typed_okc, boundsE, bound, binS, stabG, stabS, same_agg, same_ip, same_int, same_bool, same_str, same_vs, same_sl, same_ptr, sameL_nil, sameL_cons])
            | with_reducible refine condK_bsplit (fun _ => ?_) (fun _ => ?_)
            | with_reducible refine optK_bsplit (fun _ => ?_) (fun _ => ?_)
            | with_reducible refine optD_bsplit (fun _ => ?_) (fun _ => ?_)
            | with_reducible refine optD_chk ?_ ?_
            | with_reducible refine chkQ_out (by decide) ?_
            | with_reducible refine chkQ_in' (by decide) ?_ ?_
            | with_reducible exact chkQ_end
            | with_reducible refine stab1_eq ?_
            | with_reducible refine optQ_some' ?_
      all_goals first | (simp [builtinF, cntF, hs, typedF, *]; done) | (subst_vars; simp_all [builtinF, cntF, typedF, isVc]; done)
    · subst hn
      obtain ⟨a, rfl⟩ := len1 hl
      cases hs : allSame [a] a
      all_goals
        repeat' first
            | with_reducible refine condK_split (fun _ => ?_) (fun _ => ?_)
            | with_reducible refine optK_gsplit (fun _ => ?_) (fun _ => ?_)
            | with_reducible refine optD_gsplit (fun _ => ?_) (fun _ => ?_)
            | ((with_reducible refine K_keep ?_ ?_); · rfl)
            | (simp -implicitDefEqProofs (disch := first | omega | assumption) only [push_cast, ↓reduceIte, Nat.reduceEqDiff, Nat.reduceLT, Nat.reduceLeDiff, Nat.reduceAdd, reduceCtorEq, Nat.reduceBEq, ← decide_not, Int.reduceAdd, Int.reduceSub, Int.reduceMul, Int.reduceNeg, Int.reduceTMod, Int.reduceTDiv, Int.reduceLT, Int.reduceLE, Int.reduceEq, Int.reduceToNat, Nat.reduceMul, Nat.reduceSub, K_seq, hs, ty_eq, ty_eta, tys1, tys2, tys3, tys_len, findE, setE, keySame, keyIs, l_beq, l_beq0, l_beq1, l_beq2, UInt8.reduceToNat, Option.isSome_some, Option.isSome_none, Option.getD_some, Option.getD_none, kind_ok, equal1_own, equal2_own, equal3_own, num_ok, vc_ok, typed_okc, boundsE, bound, binS, stabG, stabS, same_agg, same_ip, same_int, same_bool, same_str, same_vs, same_sl, same_ptr, sameL_nil, sameL_cons])
            | with_reducible refine condK_bsplit (fun _ => ?_) (fun _ => ?_)
            | with_reducible refine optK_bsplit (fun _ => ?_) (fun _ => ?_)
            | with_reducible refine optD_bsplit (fun _ => ?_) (fun _ => ?_)
            | with_reducible refine optD_chk ?_ ?_
            | with_reducible refine chkQ_out (by decide) ?_
            | with_reducible refine chkQ_in' (by decide) ?_ ?_
            | with_reducible exact chkQ_end
            | with_reducible refine stab1_eq ?_
            | with_reducible refine optQ_some' ?_
      all_goals first | (simp [builtinF, cntF, hs, typedF, *]; done) | (subst_vars; simp_all [builtinF, cntF, typedF, isVc]; done)
    · subst hn
      obtain ⟨a, rfl⟩ := len1 hl
      cases hs : allSame [a] a
      all_goals
        repeat' first
            | with_reducible refine condK_split (fun _ => ?_) (fun _ => ?_)
            | with_reducible refine optK_gsplit (fun _ => ?_) (fun _ => ?_)
            | with_reducible refine optD_gsplit (fun _ => ?_) (fun _ => ?_)
            | ((with_reducible refine K_keep ?_ ?_); · rfl)
            | (simp -implicitDefEqProofs (disch := first | omega | assumption) only [push_cast, ↓reduceIte, Nat.reduceEqDiff, Nat.reduceLT, Nat.reduceLeDiff, Nat.reduceAdd, reduceCtorEq, Nat.reduceBEq, ← decide_not, Int.reduceAdd, Int.reduceSub, Int.reduceMul, Int.reduceNeg, Int.reduceTMod, Int.reduceTDiv, Int.reduceLT, Int.reduceLE, Int.reduceEq, Int.reduceToNat, Nat.reduceMul, Nat.reduceSub, K_seq, hs, ty_eq, ty_eta, tys1, tys2, tys3, tys_len, findE, setE, keySame, keyIs, l_beq, l_beq0, l_beq1, l_beq2, UInt8.reduceToNat, Option.isSome_some, Option.isSome_none, Option.getD_some, Option.getD_none, kind_ok, equal1_own, equal2_own, equal3_own, num_ok, vc_ok, typed_okc, boundsE, bound, binS, stabG, stabS, same_agg, same_ip, same_int, same_bool, same_str, same_vs, same_sl, same_ptr, sameL_nil, sameL_cons])
            | with_reducible refine condK_bsplit (fun _ => ?_) (fun _ => ?_)
            | with_reducible refine optK_bsplit (fun _ => ?_) (fun _ => ?_)
            | with_reducible refine optD_bsplit (fun _ => ?_) (fun _ => ?_)
            | with_reducible refine optD_chk ?_ ?_
            | with_reducible refine chkQ_out (by decide) ?_
            | with_reducible refine chkQ_in' (by decide) ?_ ?_
            | with_reducible exact chkQ_end
            | with_reducible refine stab1_eq ?_
            | with_reducible refine optQ_some' ?_
      all_goals first | (simp [builtinF, cntF, hs, typedF, *]; done) | (subst_vars; simp_all [builtinF, cntF, typedF, isVc]; done)
    · subst hn
      obtain ⟨a, rfl⟩ := len1 hl
      cases hs : allSame [a] a
      all_goals
        repeat' first
            | with_reducible refine condK_split (fun _ => ?_) (fun _ => ?_)
            | with_reducible refine optK_gsplit (fun _ => ?_) (fun _ => ?_)
            | with_reducible refine optD_gsplit (fun _ => ?_) (fun _ => ?_)
            | ((with_reducible refine K_keep ?_ ?_); · rfl)
            | (simp -implicitDefEqProofs (disch := first | omega | assumption) only [push_cast, ↓reduceIte, Nat.reduceEqDiff, Nat.reduceLT, Nat.reduceLeDiff, Nat.reduceAdd, reduceCtorEq, Nat.reduceBEq, ← decide_not, Int.reduceAdd, Int.reduceSub, Int.reduceMul, Int.reduceNeg, Int.reduceTMod, Int.reduceTDiv, Int.reduceLT, Int.reduceLE, Int.reduceEq, Int.reduceToNat, Nat.reduceMul, Nat.reduceSub, K_seq, hs, ty_eq, ty_eta, tys1, tys2, tys3, tys_len, findE, setE, keySame, keyIs, l_beq, l_beq0, l_beq1, l_beq2, UInt8.reduceToNat, Option.isSome_some, Option.isSome_none, Option.getD_some, Option.getD_none, kind_ok, equal1_own, equal2_own, equal3_own, num_ok, vc_ok, typed_okc, boundsE, bound, binS, stabG, stabS, same_agg, same_ip, same_int, same_bool, same_str, same_vs, same_sl, same_ptr, sameL_nil, sameL_cons])
            | with_reducible refine condK_bsplit (fun _ => ?_) (fun _ => ?_)
            | with_reducible refine optK_bsplit (fun _ => ?_) (fun _ => ?_)
            | with_reducible refine optD_bsplit (fun _ => ?_) (fun _ => ?_)
            | with_reducible refine optD_chk ?_ ?_
            | with_reducible refine chkQ_out (by decide) ?_
            | with_reducible refine chkQ_in' (by decide) ?_ ?_
            | with_reducible exact chkQ_end
            | with_reducible refine stab1_eq ?_
            | with_reducible refine optQ_some' ?_
      all_goals first | (simp [builtinF, cntF, hs, typedF, *]; done) | (subst_vars; simp_all [builtinF, cntF, typedF, isVc]; done)
    · subst hn
      obtain ⟨a, b, rfl⟩ := len2 hl
      cases hs : allSame [a, b] a
      all_goals
        repeat' first
            | with_reducible refine condK_split (fun _ => ?_) (fun _ => ?_)
            | with_reducible refine optK_gsplit (fun _ => ?_) (fun _ => ?_)
            | with_reducible refine optD_gsplit (fun _ => ?_) (fun _ => ?_)
            | ((with_reducible refine K_keep ?_ ?_); · rfl)
            | (simp -implicitDefEqProofs (disch := first | omega | assumption) only [push_cast, ↓reduceIte, Nat.reduceEqDiff, Nat.reduceLT, Nat.reduceLeDiff, Nat.reduceAdd, reduceCtorEq, Nat.reduceBEq, ← decide_not, Int.reduceAdd, Int.reduceSub, Int.reduceMul, Int.reduceNeg, Int.reduceTMod, Int.reduceTDiv, Int.reduceLT, Int.reduceLE, Int.reduceEq, Int.reduceToNat, Nat.reduceMul, Nat.reduceSub, K_seq, hs, ty_eq, ty_eta, tys1, tys2, tys3, tys_len, findE, setE, keySame, keyIs, l_beq, l_beq0, l_beq1, l_beq2, UInt8.reduceToNat, Option.isSome_some, Option.isSome_none, Option.getD_some, Option.getD_none, kind_ok, equal1_own, equal2_own, equal3_own, num_ok, vc_ok, typed_okc, boundsE, bound, binS, stabG, stabS, same_agg, same_ip, same_int, same_bool, same_str, same_vs, same_sl, same_ptr, sameL_nil, sameL_cons])
            | with_reducible refine condK_bsplit (fun _ => ?_) (fun _ => ?_)
            | with_reducible refine optK_bsplit (fun _ => ?_) (fun _ => ?_)
            | with_reducible refine optD_bsplit (fun _ => ?_) (fun _ => ?_)
            | with_reducible refine optD_chk ?_ ?_
            | with_reducible refine chkQ_out (by decide) ?_
            | with_reducible refine chkQ_in' (by decide) ?_ ?_
            | with_reducible exact chkQ_end
            | with_reducible refine stab1_eq ?_
            | with_reducible refine optQ_some' ?_
      all_goals first | (simp [builtinF, cntF, hs, typedF, *]; done) | (subst_vars; simp_all [builtinF, cntF, typedF, isVc]; done)
    · subst hn
      obtain ⟨a, b, c, rfl⟩ := len3 hl
      cases hs : allSame [a, b] a
      all_goals
        repeat' first
            | with_reducible refine condK_split (fun _ => ?_) (fun _ => ?_)
            | with_reducible refine optK_gsplit (fun _ => ?_) (fun _ => ?_)
            | with_reducible refine optD_gsplit (fun _ => ?_) (fun _ => ?_)
            | ((with_reducible refine K_keep ?_ ?_); · rfl)
            | (simp -implicitDefEqProofs (disch := first | omega | assumption) only [push_cast, ↓reduceIte, Nat.reduceEqDiff, Nat.reduceLT, Nat.reduceLeDiff, Nat.reduceAdd, reduceCtorEq, Nat.reduceBEq, ← decide_not, Int.reduceAdd, Int.reduceSub, Int.reduceMul, Int.reduceNeg, Int.reduceTMod, Int.reduceTDiv, Int.reduceLT, Int.reduceLE, Int.reduceEq, Int.reduceToNat, Nat.reduceMul, Nat.reduceSub, K_seq, hs, ty_eq, ty_eta, tys1, tys2, tys3, tys_len, findE, setE, keySame, keyIs, l_beq, l_beq0, l_beq1, l_beq2, UInt8.reduceToNat, Option.isSome_some, Option.isSome_none, Option.getD_some, Option.getD_none, kind_ok, equal1_own, equal2_own, equal3_own, num_ok, vc_ok, typed_okc, boundsE, bound, binS, stabG, stabS, same_agg, same_ip, same_int, same_bool, same_str, same_vs, same_sl, same_ptr, sameL_nil, sameL_cons])
            | with_reducible refine condK_bsplit (fun _ => ?_) (fun _ => ?_)
            | with_reducible refine optK_bsplit (fun _ => ?_) (fun _ => ?_)
            | with_reducible refine optD_bsplit (fun _ => ?_) (fun _ => ?_)
            | with_reducible refine optD_chk ?_ ?_
            | with_reducible refine chkQ_out (by decide) ?_
            | with_reducible refine chkQ_in' (by decide) ?_ ?_
            | with_reducible exact chkQ_end
            | with_reducible refine stab1_eq ?_
            | with_reducible refine optQ_some' ?_
      all_goals first | (simp [builtinF, cntF, hs, typedF, *]; done) | (subst_vars; simp_all [builtinF, cntF, typedF, isVc]; done)
  · rcases hn with hn | hn | hn | hn | hn | hn | hn | hn | hn
    all_goals subst hn
    all_goals simp [cntF] at hl
    all_goals
      repeat' first
          | with_reducible refine condK_split (fun _ => ?_) (fun _ => ?_)
          | with_reducible refine optK_gsplit (fun _ => ?_) (fun _ => ?_)
          | with_reducible refine optD_gsplit (fun _ => ?_) (fun _ => ?_)
          | ((with_reducible refine K_keep ?_ ?_); · rfl)
          | (simp -implicitDefEqProofs (disch := first | omega | assumption) only [push_cast, ↓reduceIte, Nat.reduceEqDiff, Nat.reduceLT, Nat.reduceLeDiff, Nat.reduceAdd, reduceCtorEq, Nat.reduceBEq, ← decide_not, Int.reduceAdd, Int.reduceSub, Int.reduceMul, Int.reduceNeg, Int.reduceTMod, Int.reduceTDiv, Int.reduceLT, Int.reduceLE, Int.reduceEq, Int.reduceToNat, Nat.reduceMul, Nat.reduceSub, eqTop, eqShL, eqSh, K_seq, tys_len, hl, findE, setE, keySame, keyIs, l_beq, l_beq0, l_beq1, l_beq2, UInt8.reduceToNat, Option.isSome_some, Option.isSome_none, Option.getD_some, Option.getD_none])
          | with_reducible refine condK_bsplit (fun _ => ?_) (fun _ => ?_)
          | with_reducible refine optK_bsplit (fun _ => ?_) (fun _ => ?_)
          | with_reducible refine optD_bsplit (fun _ => ?_) (fun _ => ?_)
    all_goals simp [builtinF, cntF, hl]
end Go.VI.S
