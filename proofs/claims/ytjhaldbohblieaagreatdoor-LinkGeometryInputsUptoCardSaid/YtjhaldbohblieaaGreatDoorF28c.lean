/- Chapter 28: structs, functions and fields by their names; numbers of components. -/
import Derived.Test.YtjhaldbohblieaaGreatDoorF28b
set_option maxRecDepth 100000
set_option linter.unusedSimpArgs false
set_option linter.unusedVariables false
set_option pp.deepTerms.threshold 4
set_option pp.deepTerms false
namespace Go.VI.S
open Go.VI
/-- The lists of a module are not longer than memory. -/
structure Mod.Ok (m : Mod) : Prop where
  ss : m.ss.length ≤ 1048576
  us : m.us.length ≤ 1048576
  ts : m.ts.length ≤ 1048576
  bs : m.bs.length ≤ 1048576
  ins : m.ins.length ≤ 1048576
  outs : m.outs.length ≤ 1048576
  fs : m.fs.length ≤ 1048576
  sf : ∀ s ∈ m.ss, s.fs.length ≤ 1048576
  pf : ∀ f ∈ m.fs, f.ps.length ≤ 1048576
def stF (m : Mod) (nm : Str) : Int := idxF (fun s => decide (s.name = nm)) m.ss
def fnF (m : Mod) (nm : Str) : Int := idxF (fun s => decide (s.name = nm)) m.fs
def fdF (l : List Fld) (nm : Str) : Int := idxF (fun s => decide (s.name = nm)) l
theorem find_ok (m : Mod) (hm : m.Ok) (nm : Str) (h : Heap) : doCall E (callR E) 46 [.agg m.c, .str nm] h = some (.int .i64 (stF m nm), h) := by
  have h1 := m.hm
  have h2 := hm.ss
  refine call_pure (pf := p46) rfl rfl rfl rfl (by simp [PV.lowL, PV.low, strs_low, flds_low, scts_low, funs_low, h1]) (by simp [PV.low, PV.lowL, strs_low, flds_low, scts_low, funs_low, h1]) ?_ h
  show kQ E _ (endQ [⟨4, none⟩] _) .norm { lvl := 0, tmps := mk 9 [(0, .agg m.c), (1, .str nm)], heap := [[]], defers := [] }
  repeat' first
      | with_reducible refine condK_split (fun _ => ?_) (fun _ => ?_)
      | with_reducible refine optK_gsplit (fun _ => ?_) (fun _ => ?_)
      | with_reducible refine optD_gsplit (fun _ => ?_) (fun _ => ?_)
      | ((with_reducible refine K_keep ?_ ?_); · rfl)
      | (simp -implicitDefEqProofs (disch := first | omega | assumption) only [K_nil, K_skip, K_seq, K_reg, K_regd, K_cond, K_block, K_loop, K_exit, K_ret, K_onil, K_ocons, K_inil, K_icons, K_bnorm, K_bret, K_bexit, K_cret, K_cexit, optK_some, optD_c, optD_r, condK_t, condK_f, guS_t, guS_f, guardE, stepX, stepOp, callV, evX, Fr.put, Fr.lay, Fr.nm, layE, POp.slot, nextGen, mk_get, mk_set, mk_len, look, keepL, List.mem_cons, List.not_mem_nil, or_false, false_or, true_or, or_true, ↓reduceIte, hget_0, hset_0, getD_0, List.getElem?_cons_zero, List.getElem?_cons_succ, List.set_cons_zero, List.set_cons_succ, List.length_cons, List.length_nil, Option.bind_some, Option.bind_none, id_eq, Nat.reduceEqDiff, Nat.reduceLT, Nat.reduceLeDiff, Nat.reduceAdd, Nat.zero_add, Nat.add_zero, zero_ne_one', one_ne_zero', Nat.succ_ne_self, false_and, and_true, true_and, if_pos, if_neg, ite_self, Option.some.injEq, reduceCtorEq, binI, intOp, shiftOp, maxI, minI, foldO, List.map_cons, List.map_nil, List.nil_append, List.append_nil, List.cons_append, decide_eq_true, decide_eq_false, decide_true, decide_false, int_beq, int_bne, wrap64, Bool.not_true, Bool.not_false, beq_self_eq_true, beq_tf, beq_ft, endQ_ret, endQ_norm, resultsE, mapO, rvE, loadFrom, PV.cells, PV.fits, PV.good, PV.pure, PV.low, PV.lowL, List.head?_cons, List.drop_zero, List.drop_succ_cons, List.take_succ_cons, List.take_zero, splice, List.length_append, lenOf, elems, fillParts, fillElems, dropSl, freshSlot, headSz_nil, headSz_cons, cleanFor, Fl.full, Ob.gen, look_keep, List.isEmpty_cons, List.isEmpty_nil, Nat.sub_zero, Nat.reduceBEq, Int.natCast_add, Int.natCast_one, natbeq_self, Bool.true_or, Bool.false_or, Bool.or_true, Bool.or_false, Bool.true_and, Bool.and_true, Bool.and_self, Bool.or_self, optD_call, eqTop, eqShL, eqSh, eq_self, ← decide_not, not_true_eq_false, not_false_eq_true, Int.reduceAdd, Int.reduceSub, Int.reduceMul, Int.reduceNeg, Int.reduceTMod, Int.reduceTDiv, Int.reduceLT, Int.reduceLE, Int.reduceEq, Int.reduceToNat, Nat.reduceMul, Nat.reduceSub, List.drop_succ_cons, List.drop_nil, ixs_ok, strs_low, flds_low, scts_low, funs_low, h1, stF])
      | with_reducible refine condK_bsplit (fun _ => ?_) (fun _ => ?_)
      | with_reducible refine optK_bsplit (fun _ => ?_) (fun _ => ?_)
      | with_reducible refine optD_bsplit (fun _ => ?_) (fun _ => ?_)
theorem findf_ok (m : Mod) (hm : m.Ok) (nm : Str) (h : Heap) : doCall E (callR E) 134 [.agg m.c, .str nm] h = some (.int .i64 (fnF m nm), h) := by
  have h1 := m.hm
  have h2 := hm.fs
  refine call_pure (pf := p134) rfl rfl rfl rfl (by simp [PV.lowL, PV.low, strs_low, flds_low, scts_low, funs_low, h1]) (by simp [PV.low, PV.lowL, strs_low, flds_low, scts_low, funs_low, h1]) ?_ h
  show kQ E _ (endQ [⟨4, none⟩] _) .norm { lvl := 0, tmps := mk 9 [(0, .agg m.c), (1, .str nm)], heap := [[]], defers := [] }
  repeat' first
      | with_reducible refine condK_split (fun _ => ?_) (fun _ => ?_)
      | with_reducible refine optK_gsplit (fun _ => ?_) (fun _ => ?_)
      | with_reducible refine optD_gsplit (fun _ => ?_) (fun _ => ?_)
      | ((with_reducible refine K_keep ?_ ?_); · rfl)
      | (simp -implicitDefEqProofs (disch := first | omega | assumption) only [K_nil, K_skip, K_seq, K_reg, K_regd, K_cond, K_block, K_loop, K_exit, K_ret, K_onil, K_ocons, K_inil, K_icons, K_bnorm, K_bret, K_bexit, K_cret, K_cexit, optK_some, optD_c, optD_r, condK_t, condK_f, guS_t, guS_f, guardE, stepX, stepOp, callV, evX, Fr.put, Fr.lay, Fr.nm, layE, POp.slot, nextGen, mk_get, mk_set, mk_len, look, keepL, List.mem_cons, List.not_mem_nil, or_false, false_or, true_or, or_true, ↓reduceIte, hget_0, hset_0, getD_0, List.getElem?_cons_zero, List.getElem?_cons_succ, List.set_cons_zero, List.set_cons_succ, List.length_cons, List.length_nil, Option.bind_some, Option.bind_none, id_eq, Nat.reduceEqDiff, Nat.reduceLT, Nat.reduceLeDiff, Nat.reduceAdd, Nat.zero_add, Nat.add_zero, zero_ne_one', one_ne_zero', Nat.succ_ne_self, false_and, and_true, true_and, if_pos, if_neg, ite_self, Option.some.injEq, reduceCtorEq, binI, intOp, shiftOp, maxI, minI, foldO, List.map_cons, List.map_nil, List.nil_append, List.append_nil, List.cons_append, decide_eq_true, decide_eq_false, decide_true, decide_false, int_beq, int_bne, wrap64, Bool.not_true, Bool.not_false, beq_self_eq_true, beq_tf, beq_ft, endQ_ret, endQ_norm, resultsE, mapO, rvE, loadFrom, PV.cells, PV.fits, PV.good, PV.pure, PV.low, PV.lowL, List.head?_cons, List.drop_zero, List.drop_succ_cons, List.take_succ_cons, List.take_zero, splice, List.length_append, lenOf, elems, fillParts, fillElems, dropSl, freshSlot, headSz_nil, headSz_cons, cleanFor, Fl.full, Ob.gen, look_keep, List.isEmpty_cons, List.isEmpty_nil, Nat.sub_zero, Nat.reduceBEq, Int.natCast_add, Int.natCast_one, natbeq_self, Bool.true_or, Bool.false_or, Bool.or_true, Bool.or_false, Bool.true_and, Bool.and_true, Bool.and_self, Bool.or_self, optD_call, eqTop, eqShL, eqSh, eq_self, ← decide_not, not_true_eq_false, not_false_eq_true, Int.reduceAdd, Int.reduceSub, Int.reduceMul, Int.reduceNeg, Int.reduceTMod, Int.reduceTDiv, Int.reduceLT, Int.reduceLE, Int.reduceEq, Int.reduceToNat, Nat.reduceMul, Nat.reduceSub, List.drop_succ_cons, List.drop_nil, ixn_ok, strs_low, flds_low, scts_low, funs_low, h1, fnF])
      | with_reducible refine condK_bsplit (fun _ => ?_) (fun _ => ?_)
      | with_reducible refine optK_bsplit (fun _ => ?_) (fun _ => ?_)
      | with_reducible refine optD_bsplit (fun _ => ?_) (fun _ => ?_)
theorem fidx_ok (f : Fl) (l : List Fld) (hl : l.length ≤ 1048576) (nm : Str) (h : Heap) : doCall E (callR E) 119 [.vs f (flds l), .str nm] h = some (.int .i64 (fdF l nm), h) := by
  refine call_pure (pf := p119) rfl rfl rfl rfl (by simp [PV.lowL, PV.low, flds_low]) (by simp [PV.low, PV.lowL, flds_low]) ?_ h
  show kQ E _ (endQ [⟨4, none⟩] _) .norm { lvl := 0, tmps := mk 8 [(0, .vs f (flds l)), (1, .str nm)], heap := [[]], defers := [] }
  repeat' first
      | with_reducible refine condK_split (fun _ => ?_) (fun _ => ?_)
      | with_reducible refine optK_gsplit (fun _ => ?_) (fun _ => ?_)
      | with_reducible refine optD_gsplit (fun _ => ?_) (fun _ => ?_)
      | ((with_reducible refine K_keep ?_ ?_); · rfl)
      | (simp -implicitDefEqProofs (disch := first | omega | assumption) only [K_nil, K_skip, K_seq, K_reg, K_regd, K_cond, K_block, K_loop, K_exit, K_ret, K_onil, K_ocons, K_inil, K_icons, K_bnorm, K_bret, K_bexit, K_cret, K_cexit, optK_some, optD_c, optD_r, condK_t, condK_f, guS_t, guS_f, guardE, stepX, stepOp, callV, evX, Fr.put, Fr.lay, Fr.nm, layE, POp.slot, nextGen, mk_get, mk_set, mk_len, look, keepL, List.mem_cons, List.not_mem_nil, or_false, false_or, true_or, or_true, ↓reduceIte, hget_0, hset_0, getD_0, List.getElem?_cons_zero, List.getElem?_cons_succ, List.set_cons_zero, List.set_cons_succ, List.length_cons, List.length_nil, Option.bind_some, Option.bind_none, id_eq, Nat.reduceEqDiff, Nat.reduceLT, Nat.reduceLeDiff, Nat.reduceAdd, Nat.zero_add, Nat.add_zero, zero_ne_one', one_ne_zero', Nat.succ_ne_self, false_and, and_true, true_and, if_pos, if_neg, ite_self, Option.some.injEq, reduceCtorEq, binI, intOp, shiftOp, maxI, minI, foldO, List.map_cons, List.map_nil, List.nil_append, List.append_nil, List.cons_append, decide_eq_true, decide_eq_false, decide_true, decide_false, int_beq, int_bne, wrap64, Bool.not_true, Bool.not_false, beq_self_eq_true, beq_tf, beq_ft, endQ_ret, endQ_norm, resultsE, mapO, rvE, loadFrom, PV.cells, PV.fits, PV.good, PV.pure, PV.low, PV.lowL, List.head?_cons, List.drop_zero, List.drop_succ_cons, List.take_succ_cons, List.take_zero, splice, List.length_append, lenOf, elems, fillParts, fillElems, dropSl, freshSlot, headSz_nil, headSz_cons, cleanFor, Fl.full, Ob.gen, look_keep, List.isEmpty_cons, List.isEmpty_nil, Nat.sub_zero, Nat.reduceBEq, Int.natCast_add, Int.natCast_one, natbeq_self, Bool.true_or, Bool.false_or, Bool.or_true, Bool.or_false, Bool.true_and, Bool.and_true, Bool.and_self, Bool.or_self, optD_call, eqTop, eqShL, eqSh, eq_self, ← decide_not, not_true_eq_false, not_false_eq_true, Int.reduceAdd, Int.reduceSub, Int.reduceMul, Int.reduceNeg, Int.reduceTMod, Int.reduceTDiv, Int.reduceLT, Int.reduceLE, Int.reduceEq, Int.reduceToNat, Nat.reduceMul, Nat.reduceSub, List.drop_succ_cons, List.drop_nil, ixf_ok, flds_low, fdF])
      | with_reducible refine condK_bsplit (fun _ => ?_) (fun _ => ?_)
      | with_reducible refine optK_bsplit (fun _ => ?_) (fun _ => ?_)
      | with_reducible refine optD_bsplit (fun _ => ?_) (fun _ => ?_)

theorem rfind_loop (m : Mod) (hm : m.Ok) (nm : Str) {ks : List KI} {Q : PEx → Fr → Prop}
    (hr : ∀ t, look t 4 = .int .i64 (stF m nm) → kQ E ks Q .ret { lvl := 0, tmps := mk 22 t, heap := [[]], defers := [] })
    (hn : ∀ t, stF m nm = -1 → kQ E ks Q .norm { lvl := 0, tmps := mk 22 t, heap := [[]], defers := [] }) :
    ∀ (rest pre : List Sct) (t : List (Nat × PV)), m.ss = pre ++ rest → idxG (fun s => decide (s.name = nm)) rest pre.length = stF m nm →
      look t 2 = .ip m.c → look t 1 = .str nm → look t 5 = .int .i64 pre.length →
      kQ E (.code p100l0 :: .blk 0 :: ks) Q .norm { lvl := 0, tmps := mk 22 t, heap := [[]], defers := [] } := by
  have hb := hm.ss
  intro rest
  induction rest with
  | nil =>
    intro pre t hl hi h0 h1 h5
    have e : m.ss.length = pre.length := by rw [hl]; simp
    refine loopK' (c := p100l0) rfl ?_
    repeat' first
        | with_reducible refine condK_split (fun _ => ?_) (fun _ => ?_)
        | with_reducible refine optK_gsplit (fun _ => ?_) (fun _ => ?_)
        | with_reducible refine optD_gsplit (fun _ => ?_) (fun _ => ?_)
        | ((with_reducible refine K_keep ?_ ?_); · rfl)
        | (simp -implicitDefEqProofs (disch := first | omega | assumption) only [K_nil, K_skip, K_seq, K_reg, K_regd, K_cond, K_block, K_loop, K_exit, K_ret, K_onil, K_ocons, K_inil, K_icons, K_bnorm, K_bret, K_bexit, K_cret, K_cexit, optK_some, optD_c, optD_r, condK_t, condK_f, guS_t, guS_f, guardE, stepX, stepOp, callV, evX, Fr.put, Fr.lay, Fr.nm, layE, POp.slot, nextGen, mk_get, mk_set, mk_len, look, keepL, List.mem_cons, List.not_mem_nil, or_false, false_or, true_or, or_true, ↓reduceIte, hget_0, hset_0, getD_0, List.getElem?_cons_zero, List.getElem?_cons_succ, List.set_cons_zero, List.set_cons_succ, List.length_cons, List.length_nil, Option.bind_some, Option.bind_none, id_eq, Nat.reduceEqDiff, Nat.reduceLT, Nat.reduceLeDiff, Nat.reduceAdd, Nat.zero_add, Nat.add_zero, zero_ne_one', one_ne_zero', Nat.succ_ne_self, false_and, and_true, true_and, if_pos, if_neg, ite_self, Option.some.injEq, reduceCtorEq, binI, intOp, shiftOp, maxI, minI, foldO, List.map_cons, List.map_nil, List.nil_append, List.append_nil, List.cons_append, decide_eq_true, decide_eq_false, decide_true, decide_false, int_beq, int_bne, wrap64, Bool.not_true, Bool.not_false, beq_self_eq_true, beq_tf, beq_ft, endQ_ret, endQ_norm, resultsE, mapO, rvE, loadFrom, PV.cells, PV.fits, PV.good, PV.pure, PV.low, PV.lowL, List.head?_cons, List.drop_zero, List.drop_succ_cons, List.take_succ_cons, List.take_zero, splice, List.length_append, lenOf, elems, fillParts, fillElems, dropSl, freshSlot, headSz_nil, headSz_cons, cleanFor, Fl.full, Ob.gen, look_keep, List.isEmpty_cons, List.isEmpty_nil, Nat.sub_zero, Nat.reduceBEq, Int.natCast_add, Int.natCast_one, natbeq_self, Bool.true_or, Bool.false_or, Bool.or_true, Bool.or_false, Bool.true_and, Bool.and_true, Bool.and_self, Bool.or_self, optD_call, eqTop, eqShL, eqSh, eq_self, ← decide_not, not_true_eq_false, not_false_eq_true, Int.reduceAdd, Int.reduceSub, Int.reduceMul, Int.reduceNeg, Int.reduceTMod, Int.reduceTDiv, Int.reduceLT, Int.reduceLE, Int.reduceEq, Int.reduceToNat, Nat.reduceMul, Nat.reduceSub, List.drop_succ_cons, List.drop_nil, h0, h1, h5, e, scts_len])
        | with_reducible refine condK_bsplit (fun _ => ?_) (fun _ => ?_)
        | with_reducible refine optK_bsplit (fun _ => ?_) (fun _ => ?_)
        | with_reducible refine optD_bsplit (fun _ => ?_) (fun _ => ?_)
    exact hn _ hi.symm
  | cons s r ih =>
    intro pre t hl hi h0 h1 h5
    have e : m.ss.length = pre.length + r.length + 1 := by rw [hl]; simp; omega
    have hg : (scts m.ss)[pre.length]? = some (.agg [.str s.name, .vs s.fl (flds s.fs)]) := by rw [hl]; exact get_at _ _ _ _
    skip
    refine loopK' (c := p100l0) rfl ?_
    repeat' first
        | with_reducible refine condK_split (fun _ => ?_) (fun _ => ?_)
        | with_reducible refine optK_gsplit (fun _ => ?_) (fun _ => ?_)
        | with_reducible refine optD_gsplit (fun _ => ?_) (fun _ => ?_)
        | ((with_reducible refine K_keep ?_ ?_); · rfl)
        | (simp -implicitDefEqProofs (disch := first | omega | assumption) only [K_nil, K_skip, K_seq, K_reg, K_regd, K_cond, K_block, K_loop, K_exit, K_ret, K_onil, K_ocons, K_inil, K_icons, K_bnorm, K_bret, K_bexit, K_cret, K_cexit, optK_some, optD_c, optD_r, condK_t, condK_f, guS_t, guS_f, guardE, stepX, stepOp, callV, evX, Fr.put, Fr.lay, Fr.nm, layE, POp.slot, nextGen, mk_get, mk_set, mk_len, look, keepL, List.mem_cons, List.not_mem_nil, or_false, false_or, true_or, or_true, ↓reduceIte, hget_0, hset_0, getD_0, List.getElem?_cons_zero, List.getElem?_cons_succ, List.set_cons_zero, List.set_cons_succ, List.length_cons, List.length_nil, Option.bind_some, Option.bind_none, id_eq, Nat.reduceEqDiff, Nat.reduceLT, Nat.reduceLeDiff, Nat.reduceAdd, Nat.zero_add, Nat.add_zero, zero_ne_one', one_ne_zero', Nat.succ_ne_self, false_and, and_true, true_and, if_pos, if_neg, ite_self, Option.some.injEq, reduceCtorEq, binI, intOp, shiftOp, maxI, minI, foldO, List.map_cons, List.map_nil, List.nil_append, List.append_nil, List.cons_append, decide_eq_true, decide_eq_false, decide_true, decide_false, int_beq, int_bne, wrap64, Bool.not_true, Bool.not_false, beq_self_eq_true, beq_tf, beq_ft, endQ_ret, endQ_norm, resultsE, mapO, rvE, loadFrom, PV.cells, PV.fits, PV.good, PV.pure, PV.low, PV.lowL, List.head?_cons, List.drop_zero, List.drop_succ_cons, List.take_succ_cons, List.take_zero, splice, List.length_append, lenOf, elems, fillParts, fillElems, dropSl, freshSlot, headSz_nil, headSz_cons, cleanFor, Fl.full, Ob.gen, look_keep, List.isEmpty_cons, List.isEmpty_nil, Nat.sub_zero, Nat.reduceBEq, Int.natCast_add, Int.natCast_one, natbeq_self, Bool.true_or, Bool.false_or, Bool.or_true, Bool.or_false, Bool.true_and, Bool.and_true, Bool.and_self, Bool.or_self, optD_call, eqTop, eqShL, eqSh, eq_self, ← decide_not, not_true_eq_false, not_false_eq_true, Int.reduceAdd, Int.reduceSub, Int.reduceMul, Int.reduceNeg, Int.reduceTMod, Int.reduceTDiv, Int.reduceLT, Int.reduceLE, Int.reduceEq, Int.reduceToNat, Nat.reduceMul, Nat.reduceSub, List.drop_succ_cons, List.drop_nil, h0, h1, h5, hg, binS, str_beq, scts_len, Int.toNat_natCast])
        | with_reducible refine condK_bsplit (fun _ => ?_) (fun _ => ?_)
        | with_reducible refine optK_bsplit (fun _ => ?_) (fun _ => ?_)
        | with_reducible refine optD_bsplit (fun _ => ?_) (fun _ => ?_)
    · rename_i hp
      refine hr _ ?_
      simp only [look, if_pos, ↓reduceIte, Nat.reduceEqDiff]
      rw [← hi]
      simp [idxG, hp]
    · rename_i hp
      refine ih (pre ++ [s]) _ (by simp [hl]) ?_ (by simp [look, look_keepL, h0]) (by simp [look, look_keepL, h1]) (by simp [look, look_keepL])
      rw [← hi]
      simp [idxG, hp]
theorem rfind_ok (m : Mod) (hm : m.Ok) (nm : Str) (h : Heap) : doCall E (callR E) 100 [.agg m.c, .str nm] h = some (.int .i64 (stF m nm), h) := by
  have h1 := m.hm
  refine call_pure (pf := p100) rfl rfl rfl rfl (by simp [PV.lowL, PV.low, strs_low, flds_low, scts_low, funs_low, h1]) (by simp [PV.low, PV.lowL, strs_low, flds_low, scts_low, funs_low, h1]) ?_ h
  show kQ E _ (endQ [⟨4, none⟩] _) .norm { lvl := 0, tmps := mk 22 [(0, .agg m.c), (1, .str nm)], heap := [[]], defers := [] }
  repeat' first
      | with_reducible refine condK_split (fun _ => ?_) (fun _ => ?_)
      | with_reducible refine optK_gsplit (fun _ => ?_) (fun _ => ?_)
      | with_reducible refine optD_gsplit (fun _ => ?_) (fun _ => ?_)
      | ((with_reducible refine K_keep ?_ ?_); · rfl)
      | (simp -implicitDefEqProofs (disch := first | omega | assumption) only [K_nil, K_skip, K_seq, K_reg, K_regd, K_cond, K_block, K_loop, K_exit, K_ret, K_onil, K_ocons, K_inil, K_icons, K_bnorm, K_bret, K_bexit, K_cret, K_cexit, optK_some, optD_c, optD_r, condK_t, condK_f, guS_t, guS_f, guardE, stepX, stepOp, callV, evX, Fr.put, Fr.lay, Fr.nm, layE, POp.slot, nextGen, mk_get, mk_set, mk_len, look, keepL, List.mem_cons, List.not_mem_nil, or_false, false_or, true_or, or_true, ↓reduceIte, hget_0, hset_0, getD_0, List.getElem?_cons_zero, List.getElem?_cons_succ, List.set_cons_zero, List.set_cons_succ, List.length_cons, List.length_nil, Option.bind_some, Option.bind_none, id_eq, Nat.reduceEqDiff, Nat.reduceLT, Nat.reduceLeDiff, Nat.reduceAdd, Nat.zero_add, Nat.add_zero, zero_ne_one', one_ne_zero', Nat.succ_ne_self, false_and, and_true, true_and, if_pos, if_neg, ite_self, Option.some.injEq, reduceCtorEq, binI, intOp, shiftOp, maxI, minI, foldO, List.map_cons, List.map_nil, List.nil_append, List.append_nil, List.cons_append, decide_eq_true, decide_eq_false, decide_true, decide_false, int_beq, int_bne, wrap64, Bool.not_true, Bool.not_false, beq_self_eq_true, beq_tf, beq_ft, endQ_ret, endQ_norm, resultsE, mapO, rvE, loadFrom, PV.cells, PV.fits, PV.good, PV.pure, PV.low, PV.lowL, List.head?_cons, List.drop_zero, List.drop_succ_cons, List.take_succ_cons, List.take_zero, splice, List.length_append, lenOf, elems, fillParts, fillElems, dropSl, freshSlot, headSz_nil, headSz_cons, cleanFor, Fl.full, Ob.gen, look_keep, List.isEmpty_cons, List.isEmpty_nil, Nat.sub_zero, Nat.reduceBEq, Int.natCast_add, Int.natCast_one, natbeq_self, Bool.true_or, Bool.false_or, Bool.or_true, Bool.or_false, Bool.true_and, Bool.and_true, Bool.and_self, Bool.or_self, optD_call, eqTop, eqShL, eqSh, eq_self, ← decide_not, not_true_eq_false, not_false_eq_true, Int.reduceAdd, Int.reduceSub, Int.reduceMul, Int.reduceNeg, Int.reduceTMod, Int.reduceTDiv, Int.reduceLT, Int.reduceLE, Int.reduceEq, Int.reduceToNat, Nat.reduceMul, Nat.reduceSub, List.drop_succ_cons, List.drop_nil, strs_low, flds_low, scts_low, funs_low, h1])
      | with_reducible refine condK_bsplit (fun _ => ?_) (fun _ => ?_)
      | with_reducible refine optK_bsplit (fun _ => ?_) (fun _ => ?_)
      | with_reducible refine optD_bsplit (fun _ => ?_) (fun _ => ?_)
  refine rfind_loop m hm nm ?_ ?_ m.ss [] _ rfl rfl (by simp [look, look_keepL]) (by simp [look, look_keepL]) (by simp [look, look_keepL])
  all_goals
    intro t h4
    repeat' first
        | with_reducible refine condK_split (fun _ => ?_) (fun _ => ?_)
        | with_reducible refine optK_gsplit (fun _ => ?_) (fun _ => ?_)
        | with_reducible refine optD_gsplit (fun _ => ?_) (fun _ => ?_)
        | ((with_reducible refine K_keep ?_ ?_); · rfl)
        | (simp -implicitDefEqProofs (disch := first | omega | assumption) only [K_nil, K_skip, K_seq, K_reg, K_regd, K_cond, K_block, K_loop, K_exit, K_ret, K_onil, K_ocons, K_inil, K_icons, K_bnorm, K_bret, K_bexit, K_cret, K_cexit, optK_some, optD_c, optD_r, condK_t, condK_f, guS_t, guS_f, guardE, stepX, stepOp, callV, evX, Fr.put, Fr.lay, Fr.nm, layE, POp.slot, nextGen, mk_get, mk_set, mk_len, look, keepL, List.mem_cons, List.not_mem_nil, or_false, false_or, true_or, or_true, ↓reduceIte, hget_0, hset_0, getD_0, List.getElem?_cons_zero, List.getElem?_cons_succ, List.set_cons_zero, List.set_cons_succ, List.length_cons, List.length_nil, Option.bind_some, Option.bind_none, id_eq, Nat.reduceEqDiff, Nat.reduceLT, Nat.reduceLeDiff, Nat.reduceAdd, Nat.zero_add, Nat.add_zero, zero_ne_one', one_ne_zero', Nat.succ_ne_self, false_and, and_true, true_and, if_pos, if_neg, ite_self, Option.some.injEq, reduceCtorEq, binI, intOp, shiftOp, maxI, minI, foldO, List.map_cons, List.map_nil, List.nil_append, List.append_nil, List.cons_append, decide_eq_true, decide_eq_false, decide_true, decide_false, int_beq, int_bne, wrap64, Bool.not_true, Bool.not_false, beq_self_eq_true, beq_tf, beq_ft, endQ_ret, endQ_norm, resultsE, mapO, rvE, loadFrom, PV.cells, PV.fits, PV.good, PV.pure, PV.low, PV.lowL, List.head?_cons, List.drop_zero, List.drop_succ_cons, List.take_succ_cons, List.take_zero, splice, List.length_append, lenOf, elems, fillParts, fillElems, dropSl, freshSlot, headSz_nil, headSz_cons, cleanFor, Fl.full, Ob.gen, look_keep, List.isEmpty_cons, List.isEmpty_nil, Nat.sub_zero, Nat.reduceBEq, Int.natCast_add, Int.natCast_one, natbeq_self, Bool.true_or, Bool.false_or, Bool.or_true, Bool.or_false, Bool.true_and, Bool.and_true, Bool.and_self, Bool.or_self, optD_call, eqTop, eqShL, eqSh, eq_self, ← decide_not, not_true_eq_false, not_false_eq_true, Int.reduceAdd, Int.reduceSub, Int.reduceMul, Int.reduceNeg, Int.reduceTMod, Int.reduceTDiv, Int.reduceLT, Int.reduceLE, Int.reduceEq, Int.reduceToNat, Nat.reduceMul, Nat.reduceSub, List.drop_succ_cons, List.drop_nil, h4])
        | with_reducible refine condK_bsplit (fun _ => ?_) (fun _ => ?_)
        | with_reducible refine optK_bsplit (fun _ => ?_) (fun _ => ?_)
        | with_reducible refine optD_bsplit (fun _ => ?_) (fun _ => ?_)

theorem rfindf_loop (m : Mod) (hm : m.Ok) (nm : Str) {ks : List KI} {Q : PEx → Fr → Prop}
    (hr : ∀ t, look t 4 = .int .i64 (fnF m nm) → kQ E ks Q .ret { lvl := 0, tmps := mk 22 t, heap := [[]], defers := [] })
    (hn : ∀ t, fnF m nm = -1 → kQ E ks Q .norm { lvl := 0, tmps := mk 22 t, heap := [[]], defers := [] }) :
    ∀ (rest pre : List Fun') (t : List (Nat × PV)), m.fs = pre ++ rest → idxG (fun s => decide (s.name = nm)) rest pre.length = fnF m nm →
      look t 2 = .ip m.c → look t 1 = .str nm → look t 5 = .int .i64 pre.length →
      kQ E (.code p113l0 :: .blk 0 :: ks) Q .norm { lvl := 0, tmps := mk 22 t, heap := [[]], defers := [] } := by
  have hb := hm.fs
  intro rest
  induction rest with
  | nil =>
    intro pre t hl hi h0 h1 h5
    have e : m.fs.length = pre.length := by rw [hl]; simp
    refine loopK' (c := p113l0) rfl ?_
    repeat' first
        | with_reducible refine condK_split (fun _ => ?_) (fun _ => ?_)
        | with_reducible refine optK_gsplit (fun _ => ?_) (fun _ => ?_)
        | with_reducible refine optD_gsplit (fun _ => ?_) (fun _ => ?_)
        | ((with_reducible refine K_keep ?_ ?_); · rfl)
        | (simp -implicitDefEqProofs (disch := first | omega | assumption) only [K_nil, K_skip, K_seq, K_reg, K_regd, K_cond, K_block, K_loop, K_exit, K_ret, K_onil, K_ocons, K_inil, K_icons, K_bnorm, K_bret, K_bexit, K_cret, K_cexit, optK_some, optD_c, optD_r, condK_t, condK_f, guS_t, guS_f, guardE, stepX, stepOp, callV, evX, Fr.put, Fr.lay, Fr.nm, layE, POp.slot, nextGen, mk_get, mk_set, mk_len, look, keepL, List.mem_cons, List.not_mem_nil, or_false, false_or, true_or, or_true, ↓reduceIte, hget_0, hset_0, getD_0, List.getElem?_cons_zero, List.getElem?_cons_succ, List.set_cons_zero, List.set_cons_succ, List.length_cons, List.length_nil, Option.bind_some, Option.bind_none, id_eq, Nat.reduceEqDiff, Nat.reduceLT, Nat.reduceLeDiff, Nat.reduceAdd, Nat.zero_add, Nat.add_zero, zero_ne_one', one_ne_zero', Nat.succ_ne_self, false_and, and_true, true_and, if_pos, if_neg, ite_self, Option.some.injEq, reduceCtorEq, binI, intOp, shiftOp, maxI, minI, foldO, List.map_cons, List.map_nil, List.nil_append, List.append_nil, List.cons_append, decide_eq_true, decide_eq_false, decide_true, decide_false, int_beq, int_bne, wrap64, Bool.not_true, Bool.not_false, beq_self_eq_true, beq_tf, beq_ft, endQ_ret, endQ_norm, resultsE, mapO, rvE, loadFrom, PV.cells, PV.fits, PV.good, PV.pure, PV.low, PV.lowL, List.head?_cons, List.drop_zero, List.drop_succ_cons, List.take_succ_cons, List.take_zero, splice, List.length_append, lenOf, elems, fillParts, fillElems, dropSl, freshSlot, headSz_nil, headSz_cons, cleanFor, Fl.full, Ob.gen, look_keep, List.isEmpty_cons, List.isEmpty_nil, Nat.sub_zero, Nat.reduceBEq, Int.natCast_add, Int.natCast_one, natbeq_self, Bool.true_or, Bool.false_or, Bool.or_true, Bool.or_false, Bool.true_and, Bool.and_true, Bool.and_self, Bool.or_self, optD_call, eqTop, eqShL, eqSh, eq_self, ← decide_not, not_true_eq_false, not_false_eq_true, Int.reduceAdd, Int.reduceSub, Int.reduceMul, Int.reduceNeg, Int.reduceTMod, Int.reduceTDiv, Int.reduceLT, Int.reduceLE, Int.reduceEq, Int.reduceToNat, Nat.reduceMul, Nat.reduceSub, List.drop_succ_cons, List.drop_nil, h0, h1, h5, e, funs_len])
        | with_reducible refine condK_bsplit (fun _ => ?_) (fun _ => ?_)
        | with_reducible refine optK_bsplit (fun _ => ?_) (fun _ => ?_)
        | with_reducible refine optD_bsplit (fun _ => ?_) (fun _ => ?_)
    exact hn _ hi.symm
  | cons s r ih =>
    intro pre t hl hi h0 h1 h5
    have e : m.fs.length = pre.length + r.length + 1 := by rw [hl]; simp; omega
    have hg : (funs m.fs)[pre.length]? = some (.agg (.str s.name :: .vs s.fl (flds s.ps) :: .int .i64 s.res.kind :: .str s.res.name :: .vs s.fb s.body :: s.ret)) := by rw [hl]; exact get_at _ _ _ _
    have hrl := s.hl
    refine loopK' (c := p113l0) rfl ?_
    repeat' first
        | with_reducible refine condK_split (fun _ => ?_) (fun _ => ?_)
        | with_reducible refine optK_gsplit (fun _ => ?_) (fun _ => ?_)
        | with_reducible refine optD_gsplit (fun _ => ?_) (fun _ => ?_)
        | ((with_reducible refine K_keep ?_ ?_); · rfl)
        | (simp -implicitDefEqProofs (disch := first | omega | assumption) only [K_nil, K_skip, K_seq, K_reg, K_regd, K_cond, K_block, K_loop, K_exit, K_ret, K_onil, K_ocons, K_inil, K_icons, K_bnorm, K_bret, K_bexit, K_cret, K_cexit, optK_some, optD_c, optD_r, condK_t, condK_f, guS_t, guS_f, guardE, stepX, stepOp, callV, evX, Fr.put, Fr.lay, Fr.nm, layE, POp.slot, nextGen, mk_get, mk_set, mk_len, look, keepL, List.mem_cons, List.not_mem_nil, or_false, false_or, true_or, or_true, ↓reduceIte, hget_0, hset_0, getD_0, List.getElem?_cons_zero, List.getElem?_cons_succ, List.set_cons_zero, List.set_cons_succ, List.length_cons, List.length_nil, Option.bind_some, Option.bind_none, id_eq, Nat.reduceEqDiff, Nat.reduceLT, Nat.reduceLeDiff, Nat.reduceAdd, Nat.zero_add, Nat.add_zero, zero_ne_one', one_ne_zero', Nat.succ_ne_self, false_and, and_true, true_and, if_pos, if_neg, ite_self, Option.some.injEq, reduceCtorEq, binI, intOp, shiftOp, maxI, minI, foldO, List.map_cons, List.map_nil, List.nil_append, List.append_nil, List.cons_append, decide_eq_true, decide_eq_false, decide_true, decide_false, int_beq, int_bne, wrap64, Bool.not_true, Bool.not_false, beq_self_eq_true, beq_tf, beq_ft, endQ_ret, endQ_norm, resultsE, mapO, rvE, loadFrom, PV.cells, PV.fits, PV.good, PV.pure, PV.low, PV.lowL, List.head?_cons, List.drop_zero, List.drop_succ_cons, List.take_succ_cons, List.take_zero, splice, List.length_append, lenOf, elems, fillParts, fillElems, dropSl, freshSlot, headSz_nil, headSz_cons, cleanFor, Fl.full, Ob.gen, look_keep, List.isEmpty_cons, List.isEmpty_nil, Nat.sub_zero, Nat.reduceBEq, Int.natCast_add, Int.natCast_one, natbeq_self, Bool.true_or, Bool.false_or, Bool.or_true, Bool.or_false, Bool.true_and, Bool.and_true, Bool.and_self, Bool.or_self, optD_call, eqTop, eqShL, eqSh, eq_self, ← decide_not, not_true_eq_false, not_false_eq_true, Int.reduceAdd, Int.reduceSub, Int.reduceMul, Int.reduceNeg, Int.reduceTMod, Int.reduceTDiv, Int.reduceLT, Int.reduceLE, Int.reduceEq, Int.reduceToNat, Nat.reduceMul, Nat.reduceSub, List.drop_succ_cons, List.drop_nil, h0, h1, h5, hg, binS, str_beq, funs_len, Int.toNat_natCast, hrl, Fun'.ret_take])
        | with_reducible refine condK_bsplit (fun _ => ?_) (fun _ => ?_)
        | with_reducible refine optK_bsplit (fun _ => ?_) (fun _ => ?_)
        | with_reducible refine optD_bsplit (fun _ => ?_) (fun _ => ?_)
    · rename_i hp
      refine hr _ ?_
      simp only [look, if_pos, ↓reduceIte, Nat.reduceEqDiff]
      rw [← hi]
      simp [idxG, hp]
    · rename_i hp
      refine ih (pre ++ [s]) _ (by simp [hl]) ?_ (by simp [look, look_keepL, h0]) (by simp [look, look_keepL, h1]) (by simp [look, look_keepL])
      rw [← hi]
      simp [idxG, hp]
theorem rfindf_ok (m : Mod) (hm : m.Ok) (nm : Str) (h : Heap) : doCall E (callR E) 113 [.agg m.c, .str nm] h = some (.int .i64 (fnF m nm), h) := by
  have h1 := m.hm
  refine call_pure (pf := p113) rfl rfl rfl rfl (by simp [PV.lowL, PV.low, strs_low, flds_low, scts_low, funs_low, h1]) (by simp [PV.low, PV.lowL, strs_low, flds_low, scts_low, funs_low, h1]) ?_ h
  show kQ E _ (endQ [⟨4, none⟩] _) .norm { lvl := 0, tmps := mk 22 [(0, .agg m.c), (1, .str nm)], heap := [[]], defers := [] }
  repeat' first
      | with_reducible refine condK_split (fun _ => ?_) (fun _ => ?_)
      | with_reducible refine optK_gsplit (fun _ => ?_) (fun _ => ?_)
      | with_reducible refine optD_gsplit (fun _ => ?_) (fun _ => ?_)
      | ((with_reducible refine K_keep ?_ ?_); · rfl)
      | (simp -implicitDefEqProofs (disch := first | omega | assumption) only [K_nil, K_skip, K_seq, K_reg, K_regd, K_cond, K_block, K_loop, K_exit, K_ret, K_onil, K_ocons, K_inil, K_icons, K_bnorm, K_bret, K_bexit, K_cret, K_cexit, optK_some, optD_c, optD_r, condK_t, condK_f, guS_t, guS_f, guardE, stepX, stepOp, callV, evX, Fr.put, Fr.lay, Fr.nm, layE, POp.slot, nextGen, mk_get, mk_set, mk_len, look, keepL, List.mem_cons, List.not_mem_nil, or_false, false_or, true_or, or_true, ↓reduceIte, hget_0, hset_0, getD_0, List.getElem?_cons_zero, List.getElem?_cons_succ, List.set_cons_zero, List.set_cons_succ, List.length_cons, List.length_nil, Option.bind_some, Option.bind_none, id_eq, Nat.reduceEqDiff, Nat.reduceLT, Nat.reduceLeDiff, Nat.reduceAdd, Nat.zero_add, Nat.add_zero, zero_ne_one', one_ne_zero', Nat.succ_ne_self, false_and, and_true, true_and, if_pos, if_neg, ite_self, Option.some.injEq, reduceCtorEq, binI, intOp, shiftOp, maxI, minI, foldO, List.map_cons, List.map_nil, List.nil_append, List.append_nil, List.cons_append, decide_eq_true, decide_eq_false, decide_true, decide_false, int_beq, int_bne, wrap64, Bool.not_true, Bool.not_false, beq_self_eq_true, beq_tf, beq_ft, endQ_ret, endQ_norm, resultsE, mapO, rvE, loadFrom, PV.cells, PV.fits, PV.good, PV.pure, PV.low, PV.lowL, List.head?_cons, List.drop_zero, List.drop_succ_cons, List.take_succ_cons, List.take_zero, splice, List.length_append, lenOf, elems, fillParts, fillElems, dropSl, freshSlot, headSz_nil, headSz_cons, cleanFor, Fl.full, Ob.gen, look_keep, List.isEmpty_cons, List.isEmpty_nil, Nat.sub_zero, Nat.reduceBEq, Int.natCast_add, Int.natCast_one, natbeq_self, Bool.true_or, Bool.false_or, Bool.or_true, Bool.or_false, Bool.true_and, Bool.and_true, Bool.and_self, Bool.or_self, optD_call, eqTop, eqShL, eqSh, eq_self, ← decide_not, not_true_eq_false, not_false_eq_true, Int.reduceAdd, Int.reduceSub, Int.reduceMul, Int.reduceNeg, Int.reduceTMod, Int.reduceTDiv, Int.reduceLT, Int.reduceLE, Int.reduceEq, Int.reduceToNat, Nat.reduceMul, Nat.reduceSub, List.drop_succ_cons, List.drop_nil, strs_low, flds_low, scts_low, funs_low, h1])
      | with_reducible refine condK_bsplit (fun _ => ?_) (fun _ => ?_)
      | with_reducible refine optK_bsplit (fun _ => ?_) (fun _ => ?_)
      | with_reducible refine optD_bsplit (fun _ => ?_) (fun _ => ?_)
  refine rfindf_loop m hm nm ?_ ?_ m.fs [] _ rfl rfl (by simp [look, look_keepL]) (by simp [look, look_keepL]) (by simp [look, look_keepL])
  all_goals
    intro t h4
    repeat' first
        | with_reducible refine condK_split (fun _ => ?_) (fun _ => ?_)
        | with_reducible refine optK_gsplit (fun _ => ?_) (fun _ => ?_)
        | with_reducible refine optD_gsplit (fun _ => ?_) (fun _ => ?_)
        | ((with_reducible refine K_keep ?_ ?_); · rfl)
        | (simp -implicitDefEqProofs (disch := first | omega | assumption) only [K_nil, K_skip, K_seq, K_reg, K_regd, K_cond, K_block, K_loop, K_exit, K_ret, K_onil, K_ocons, K_inil, K_icons, K_bnorm, K_bret, K_bexit, K_cret, K_cexit, optK_some, optD_c, optD_r, condK_t, condK_f, guS_t, guS_f, guardE, stepX, stepOp, callV, evX, Fr.put, Fr.lay, Fr.nm, layE, POp.slot, nextGen, mk_get, mk_set, mk_len, look, keepL, List.mem_cons, List.not_mem_nil, or_false, false_or, true_or, or_true, ↓reduceIte, hget_0, hset_0, getD_0, List.getElem?_cons_zero, List.getElem?_cons_succ, List.set_cons_zero, List.set_cons_succ, List.length_cons, List.length_nil, Option.bind_some, Option.bind_none, id_eq, Nat.reduceEqDiff, Nat.reduceLT, Nat.reduceLeDiff, Nat.reduceAdd, Nat.zero_add, Nat.add_zero, zero_ne_one', one_ne_zero', Nat.succ_ne_self, false_and, and_true, true_and, if_pos, if_neg, ite_self, Option.some.injEq, reduceCtorEq, binI, intOp, shiftOp, maxI, minI, foldO, List.map_cons, List.map_nil, List.nil_append, List.append_nil, List.cons_append, decide_eq_true, decide_eq_false, decide_true, decide_false, int_beq, int_bne, wrap64, Bool.not_true, Bool.not_false, beq_self_eq_true, beq_tf, beq_ft, endQ_ret, endQ_norm, resultsE, mapO, rvE, loadFrom, PV.cells, PV.fits, PV.good, PV.pure, PV.low, PV.lowL, List.head?_cons, List.drop_zero, List.drop_succ_cons, List.take_succ_cons, List.take_zero, splice, List.length_append, lenOf, elems, fillParts, fillElems, dropSl, freshSlot, headSz_nil, headSz_cons, cleanFor, Fl.full, Ob.gen, look_keep, List.isEmpty_cons, List.isEmpty_nil, Nat.sub_zero, Nat.reduceBEq, Int.natCast_add, Int.natCast_one, natbeq_self, Bool.true_or, Bool.false_or, Bool.or_true, Bool.or_false, Bool.true_and, Bool.and_true, Bool.and_self, Bool.or_self, optD_call, eqTop, eqShL, eqSh, eq_self, ← decide_not, not_true_eq_false, not_false_eq_true, Int.reduceAdd, Int.reduceSub, Int.reduceMul, Int.reduceNeg, Int.reduceTMod, Int.reduceTDiv, Int.reduceLT, Int.reduceLE, Int.reduceEq, Int.reduceToNat, Nat.reduceMul, Nat.reduceSub, List.drop_succ_cons, List.drop_nil, h4])
        | with_reducible refine condK_bsplit (fun _ => ?_) (fun _ => ?_)
        | with_reducible refine optK_bsplit (fun _ => ?_) (fun _ => ?_)
        | with_reducible refine optD_bsplit (fun _ => ?_) (fun _ => ?_)

theorem rfidx_loop {fl : Fl} (l : List Fld) (hb : l.length ≤ 1048576) (nm : Str) {ks : List KI} {Q : PEx → Fr → Prop}
    (hr : ∀ t, look t 4 = .int .i64 (fdF l nm) → kQ E ks Q .ret { lvl := 0, tmps := mk 20 t, heap := [[]], defers := [] })
    (hn : ∀ t, fdF l nm = -1 → kQ E ks Q .norm { lvl := 0, tmps := mk 20 t, heap := [[]], defers := [] }) :
    ∀ (rest pre : List Fld) (t : List (Nat × PV)), l = pre ++ rest → idxG (fun s => decide (s.name = nm)) rest pre.length = fdF l nm →
      look t 0 = .vs fl (flds l) → look t 1 = .str nm → look t 5 = .int .i64 pre.length →
      kQ E (.code p101l0 :: .blk 0 :: ks) Q .norm { lvl := 0, tmps := mk 20 t, heap := [[]], defers := [] } := by
  skip
  intro rest
  induction rest with
  | nil =>
    intro pre t hl hi h0 h1 h5
    have e : l.length = pre.length := by rw [hl]; simp
    refine loopK' (c := p101l0) rfl ?_
    repeat' first
        | with_reducible refine condK_split (fun _ => ?_) (fun _ => ?_)
        | with_reducible refine optK_gsplit (fun _ => ?_) (fun _ => ?_)
        | with_reducible refine optD_gsplit (fun _ => ?_) (fun _ => ?_)
        | ((with_reducible refine K_keep ?_ ?_); · rfl)
        | (simp -implicitDefEqProofs (disch := first | omega | assumption) only [K_nil, K_skip, K_seq, K_reg, K_regd, K_cond, K_block, K_loop, K_exit, K_ret, K_onil, K_ocons, K_inil, K_icons, K_bnorm, K_bret, K_bexit, K_cret, K_cexit, optK_some, optD_c, optD_r, condK_t, condK_f, guS_t, guS_f, guardE, stepX, stepOp, callV, evX, Fr.put, Fr.lay, Fr.nm, layE, POp.slot, nextGen, mk_get, mk_set, mk_len, look, keepL, List.mem_cons, List.not_mem_nil, or_false, false_or, true_or, or_true, ↓reduceIte, hget_0, hset_0, getD_0, List.getElem?_cons_zero, List.getElem?_cons_succ, List.set_cons_zero, List.set_cons_succ, List.length_cons, List.length_nil, Option.bind_some, Option.bind_none, id_eq, Nat.reduceEqDiff, Nat.reduceLT, Nat.reduceLeDiff, Nat.reduceAdd, Nat.zero_add, Nat.add_zero, zero_ne_one', one_ne_zero', Nat.succ_ne_self, false_and, and_true, true_and, if_pos, if_neg, ite_self, Option.some.injEq, reduceCtorEq, binI, intOp, shiftOp, maxI, minI, foldO, List.map_cons, List.map_nil, List.nil_append, List.append_nil, List.cons_append, decide_eq_true, decide_eq_false, decide_true, decide_false, int_beq, int_bne, wrap64, Bool.not_true, Bool.not_false, beq_self_eq_true, beq_tf, beq_ft, endQ_ret, endQ_norm, resultsE, mapO, rvE, loadFrom, PV.cells, PV.fits, PV.good, PV.pure, PV.low, PV.lowL, List.head?_cons, List.drop_zero, List.drop_succ_cons, List.take_succ_cons, List.take_zero, splice, List.length_append, lenOf, elems, fillParts, fillElems, dropSl, freshSlot, headSz_nil, headSz_cons, cleanFor, Fl.full, Ob.gen, look_keep, List.isEmpty_cons, List.isEmpty_nil, Nat.sub_zero, Nat.reduceBEq, Int.natCast_add, Int.natCast_one, natbeq_self, Bool.true_or, Bool.false_or, Bool.or_true, Bool.or_false, Bool.true_and, Bool.and_true, Bool.and_self, Bool.or_self, optD_call, eqTop, eqShL, eqSh, eq_self, ← decide_not, not_true_eq_false, not_false_eq_true, Int.reduceAdd, Int.reduceSub, Int.reduceMul, Int.reduceNeg, Int.reduceTMod, Int.reduceTDiv, Int.reduceLT, Int.reduceLE, Int.reduceEq, Int.reduceToNat, Nat.reduceMul, Nat.reduceSub, List.drop_succ_cons, List.drop_nil, h0, h1, h5, e, flds_len])
        | with_reducible refine condK_bsplit (fun _ => ?_) (fun _ => ?_)
        | with_reducible refine optK_bsplit (fun _ => ?_) (fun _ => ?_)
        | with_reducible refine optD_bsplit (fun _ => ?_) (fun _ => ?_)
    exact hn _ hi.symm
  | cons s r ih =>
    intro pre t hl hi h0 h1 h5
    have e : l.length = pre.length + r.length + 1 := by rw [hl]; simp; omega
    have hg : (flds l)[pre.length]? = some (.agg [.str s.name, .int .i64 s.ty.kind, .str s.ty.name]) := by rw [hl]; exact get_at _ _ _ _
    skip
    refine loopK' (c := p101l0) rfl ?_
    repeat' first
        | with_reducible refine condK_split (fun _ => ?_) (fun _ => ?_)
        | with_reducible refine optK_gsplit (fun _ => ?_) (fun _ => ?_)
        | with_reducible refine optD_gsplit (fun _ => ?_) (fun _ => ?_)
        | ((with_reducible refine K_keep ?_ ?_); · rfl)
        | (simp -implicitDefEqProofs (disch := first | omega | assumption) only [K_nil, K_skip, K_seq, K_reg, K_regd, K_cond, K_block, K_loop, K_exit, K_ret, K_onil, K_ocons, K_inil, K_icons, K_bnorm, K_bret, K_bexit, K_cret, K_cexit, optK_some, optD_c, optD_r, condK_t, condK_f, guS_t, guS_f, guardE, stepX, stepOp, callV, evX, Fr.put, Fr.lay, Fr.nm, layE, POp.slot, nextGen, mk_get, mk_set, mk_len, look, keepL, List.mem_cons, List.not_mem_nil, or_false, false_or, true_or, or_true, ↓reduceIte, hget_0, hset_0, getD_0, List.getElem?_cons_zero, List.getElem?_cons_succ, List.set_cons_zero, List.set_cons_succ, List.length_cons, List.length_nil, Option.bind_some, Option.bind_none, id_eq, Nat.reduceEqDiff, Nat.reduceLT, Nat.reduceLeDiff, Nat.reduceAdd, Nat.zero_add, Nat.add_zero, zero_ne_one', one_ne_zero', Nat.succ_ne_self, false_and, and_true, true_and, if_pos, if_neg, ite_self, Option.some.injEq, reduceCtorEq, binI, intOp, shiftOp, maxI, minI, foldO, List.map_cons, List.map_nil, List.nil_append, List.append_nil, List.cons_append, decide_eq_true, decide_eq_false, decide_true, decide_false, int_beq, int_bne, wrap64, Bool.not_true, Bool.not_false, beq_self_eq_true, beq_tf, beq_ft, endQ_ret, endQ_norm, resultsE, mapO, rvE, loadFrom, PV.cells, PV.fits, PV.good, PV.pure, PV.low, PV.lowL, List.head?_cons, List.drop_zero, List.drop_succ_cons, List.take_succ_cons, List.take_zero, splice, List.length_append, lenOf, elems, fillParts, fillElems, dropSl, freshSlot, headSz_nil, headSz_cons, cleanFor, Fl.full, Ob.gen, look_keep, List.isEmpty_cons, List.isEmpty_nil, Nat.sub_zero, Nat.reduceBEq, Int.natCast_add, Int.natCast_one, natbeq_self, Bool.true_or, Bool.false_or, Bool.or_true, Bool.or_false, Bool.true_and, Bool.and_true, Bool.and_self, Bool.or_self, optD_call, eqTop, eqShL, eqSh, eq_self, ← decide_not, not_true_eq_false, not_false_eq_true, Int.reduceAdd, Int.reduceSub, Int.reduceMul, Int.reduceNeg, Int.reduceTMod, Int.reduceTDiv, Int.reduceLT, Int.reduceLE, Int.reduceEq, Int.reduceToNat, Nat.reduceMul, Nat.reduceSub, List.drop_succ_cons, List.drop_nil, h0, h1, h5, hg, binS, str_beq, flds_len, Int.toNat_natCast])
        | with_reducible refine condK_bsplit (fun _ => ?_) (fun _ => ?_)
        | with_reducible refine optK_bsplit (fun _ => ?_) (fun _ => ?_)
        | with_reducible refine optD_bsplit (fun _ => ?_) (fun _ => ?_)
    · rename_i hp
      refine hr _ ?_
      simp only [look, if_pos, ↓reduceIte, Nat.reduceEqDiff]
      rw [← hi]
      simp [idxG, hp]
    · rename_i hp
      refine ih (pre ++ [s]) _ (by simp [hl]) ?_ (by simp [look, look_keepL, h0]) (by simp [look, look_keepL, h1]) (by simp [look, look_keepL])
      rw [← hi]
      simp [idxG, hp]
theorem rfidx_ok (f : Fl) (l : List Fld) (hb : l.length ≤ 1048576) (nm : Str) (h : Heap) : doCall E (callR E) 101 [.vs f (flds l), .str nm] h = some (.int .i64 (fdF l nm), h) := by
  skip
  refine call_pure (pf := p101) rfl rfl rfl rfl (by simp [PV.lowL, PV.low, strs_low, flds_low, scts_low, funs_low]) (by simp [PV.low, PV.lowL, strs_low, flds_low, scts_low, funs_low]) ?_ h
  show kQ E _ (endQ [⟨4, none⟩] _) .norm { lvl := 0, tmps := mk 20 [(0, .vs f (flds l)), (1, .str nm)], heap := [[]], defers := [] }
  repeat' first
      | with_reducible refine condK_split (fun _ => ?_) (fun _ => ?_)
      | with_reducible refine optK_gsplit (fun _ => ?_) (fun _ => ?_)
      | with_reducible refine optD_gsplit (fun _ => ?_) (fun _ => ?_)
      | ((with_reducible refine K_keep ?_ ?_); · rfl)
      | (simp -implicitDefEqProofs (disch := first | omega | assumption) only [K_nil, K_skip, K_seq, K_reg, K_regd, K_cond, K_block, K_loop, K_exit, K_ret, K_onil, K_ocons, K_inil, K_icons, K_bnorm, K_bret, K_bexit, K_cret, K_cexit, optK_some, optD_c, optD_r, condK_t, condK_f, guS_t, guS_f, guardE, stepX, stepOp, callV, evX, Fr.put, Fr.lay, Fr.nm, layE, POp.slot, nextGen, mk_get, mk_set, mk_len, look, keepL, List.mem_cons, List.not_mem_nil, or_false, false_or, true_or, or_true, ↓reduceIte, hget_0, hset_0, getD_0, List.getElem?_cons_zero, List.getElem?_cons_succ, List.set_cons_zero, List.set_cons_succ, List.length_cons, List.length_nil, Option.bind_some, Option.bind_none, id_eq, Nat.reduceEqDiff, Nat.reduceLT, Nat.reduceLeDiff, Nat.reduceAdd, Nat.zero_add, Nat.add_zero, zero_ne_one', one_ne_zero', Nat.succ_ne_self, false_and, and_true, true_and, if_pos, if_neg, ite_self, Option.some.injEq, reduceCtorEq, binI, intOp, shiftOp, maxI, minI, foldO, List.map_cons, List.map_nil, List.nil_append, List.append_nil, List.cons_append, decide_eq_true, decide_eq_false, decide_true, decide_false, int_beq, int_bne, wrap64, Bool.not_true, Bool.not_false, beq_self_eq_true, beq_tf, beq_ft, endQ_ret, endQ_norm, resultsE, mapO, rvE, loadFrom, PV.cells, PV.fits, PV.good, PV.pure, PV.low, PV.lowL, List.head?_cons, List.drop_zero, List.drop_succ_cons, List.take_succ_cons, List.take_zero, splice, List.length_append, lenOf, elems, fillParts, fillElems, dropSl, freshSlot, headSz_nil, headSz_cons, cleanFor, Fl.full, Ob.gen, look_keep, List.isEmpty_cons, List.isEmpty_nil, Nat.sub_zero, Nat.reduceBEq, Int.natCast_add, Int.natCast_one, natbeq_self, Bool.true_or, Bool.false_or, Bool.or_true, Bool.or_false, Bool.true_and, Bool.and_true, Bool.and_self, Bool.or_self, optD_call, eqTop, eqShL, eqSh, eq_self, ← decide_not, not_true_eq_false, not_false_eq_true, Int.reduceAdd, Int.reduceSub, Int.reduceMul, Int.reduceNeg, Int.reduceTMod, Int.reduceTDiv, Int.reduceLT, Int.reduceLE, Int.reduceEq, Int.reduceToNat, Nat.reduceMul, Nat.reduceSub, List.drop_succ_cons, List.drop_nil, strs_low, flds_low, scts_low, funs_low])
      | with_reducible refine condK_bsplit (fun _ => ?_) (fun _ => ?_)
      | with_reducible refine optK_bsplit (fun _ => ?_) (fun _ => ?_)
      | with_reducible refine optD_bsplit (fun _ => ?_) (fun _ => ?_)
  refine rfidx_loop (fl := f) l hb nm ?_ ?_ l [] _ rfl rfl (by simp [look, look_keepL]) (by simp [look, look_keepL]) (by simp [look, look_keepL])
  all_goals
    intro t h4
    repeat' first
        | with_reducible refine condK_split (fun _ => ?_) (fun _ => ?_)
        | with_reducible refine optK_gsplit (fun _ => ?_) (fun _ => ?_)
        | with_reducible refine optD_gsplit (fun _ => ?_) (fun _ => ?_)
        | ((with_reducible refine K_keep ?_ ?_); · rfl)
        | (simp -implicitDefEqProofs (disch := first | omega | assumption) only [K_nil, K_skip, K_seq, K_reg, K_regd, K_cond, K_block, K_loop, K_exit, K_ret, K_onil, K_ocons, K_inil, K_icons, K_bnorm, K_bret, K_bexit, K_cret, K_cexit, optK_some, optD_c, optD_r, condK_t, condK_f, guS_t, guS_f, guardE, stepX, stepOp, callV, evX, Fr.put, Fr.lay, Fr.nm, layE, POp.slot, nextGen, mk_get, mk_set, mk_len, look, keepL, List.mem_cons, List.not_mem_nil, or_false, false_or, true_or, or_true, ↓reduceIte, hget_0, hset_0, getD_0, List.getElem?_cons_zero, List.getElem?_cons_succ, List.set_cons_zero, List.set_cons_succ, List.length_cons, List.length_nil, Option.bind_some, Option.bind_none, id_eq, Nat.reduceEqDiff, Nat.reduceLT, Nat.reduceLeDiff, Nat.reduceAdd, Nat.zero_add, Nat.add_zero, zero_ne_one', one_ne_zero', Nat.succ_ne_self, false_and, and_true, true_and, if_pos, if_neg, ite_self, Option.some.injEq, reduceCtorEq, binI, intOp, shiftOp, maxI, minI, foldO, List.map_cons, List.map_nil, List.nil_append, List.append_nil, List.cons_append, decide_eq_true, decide_eq_false, decide_true, decide_false, int_beq, int_bne, wrap64, Bool.not_true, Bool.not_false, beq_self_eq_true, beq_tf, beq_ft, endQ_ret, endQ_norm, resultsE, mapO, rvE, loadFrom, PV.cells, PV.fits, PV.good, PV.pure, PV.low, PV.lowL, List.head?_cons, List.drop_zero, List.drop_succ_cons, List.take_succ_cons, List.take_zero, splice, List.length_append, lenOf, elems, fillParts, fillElems, dropSl, freshSlot, headSz_nil, headSz_cons, cleanFor, Fl.full, Ob.gen, look_keep, List.isEmpty_cons, List.isEmpty_nil, Nat.sub_zero, Nat.reduceBEq, Int.natCast_add, Int.natCast_one, natbeq_self, Bool.true_or, Bool.false_or, Bool.or_true, Bool.or_false, Bool.true_and, Bool.and_true, Bool.and_self, Bool.or_self, optD_call, eqTop, eqShL, eqSh, eq_self, ← decide_not, not_true_eq_false, not_false_eq_true, Int.reduceAdd, Int.reduceSub, Int.reduceMul, Int.reduceNeg, Int.reduceTMod, Int.reduceTDiv, Int.reduceLT, Int.reduceLE, Int.reduceEq, Int.reduceToNat, Nat.reduceMul, Nat.reduceSub, List.drop_succ_cons, List.drop_nil, h4])
        | with_reducible refine condK_bsplit (fun _ => ?_) (fun _ => ?_)
        | with_reducible refine optK_bsplit (fun _ => ?_) (fun _ => ?_)
        | with_reducible refine optD_bsplit (fun _ => ?_) (fun _ => ?_)

end Go.VI.S
