/- Chapter 20: the law TypesSizes, evaluated. -/
import Derived.Test.YtefikcjiblkmgaaGreatDoorF20g
import Derived.Test.YtefikcjiblkmgaaGreatDoorX20
set_option maxRecDepth 100000
set_option linter.unusedSimpArgs false
set_option linter.unusedVariables false
set_option pp.deepTerms.threshold 4
set_option pp.deepTerms false
namespace Go.VI.S
open Go.VI
theorem roff_ok (m : Mod) (hm : m.Ok) (fl : Fl) (l : List Fld) (hf : l.length ≤ 1048576) (nm : Str) (h : Heap) : doCall E (callR E) 21 [.agg m.c, .vs fl (flds l), .str nm] h = some (offF m l nm, h) := by
  have h1 := m.hm
  have h2 := fdF_bd l nm
  refine call_pure (pf := p21) rfl rfl rfl rfl (by simp [PV.lowL, PV.low, strs_low, flds_low, scts_low, funs_low, h1, offF_low]) (by simp [PV.low, PV.lowL, strs_low, flds_low, scts_low, funs_low, h1, offF_low]) ?_ h
  show kQ E _ (endQ [⟨6, none⟩, ⟨7, some (some 2)⟩, ⟨8, none⟩] _) .norm { lvl := 0, tmps := mk 26 [(0, .agg m.c), (1, .vs fl (flds l)), (2, .str nm)], heap := [[none]], defers := [] }
  have pu25 : pureB E 25 = true := rfl
  unfold offF
  by_cases hn : fdF l nm < 0
  · rw [if_pos hn]
    repeat' first
        | with_reducible refine condK_split (fun _ => ?_) (fun _ => ?_)
        | with_reducible refine optK_gsplit (fun _ => ?_) (fun _ => ?_)
        | with_reducible refine optD_gsplit (fun _ => ?_) (fun _ => ?_)
        | ((with_reducible refine K_keep ?_ ?_); · rfl)
        | (simp -implicitDefEqProofs (disch := first | omega | assumption) only [K_nil, K_skip, K_seq, K_reg, K_regd, K_cond, K_block, K_loop, K_exit, K_ret, K_onil, K_ocons, K_inil, K_icons, K_bnorm, K_bret, K_bexit, K_cret, K_cexit, optK_some, optD_c, optD_r, condK_t, condK_f, guS_t, guS_f, guardE, stepX, stepOp, callV, evX, Fr.put, Fr.lay, Fr.nm, layE, POp.slot, nextGen, mk_get, mk_set, mk_len, look, keepL, List.mem_cons, List.not_mem_nil, or_false, false_or, true_or, or_true, ↓reduceIte, hget_0, hset_0, getD_0, List.getElem?_cons_zero, List.getElem?_cons_succ, List.set_cons_zero, List.set_cons_succ, List.length_cons, List.length_nil, Option.bind_some, Option.bind_none, id_eq, Nat.reduceEqDiff, Nat.reduceLT, Nat.reduceLeDiff, Nat.reduceAdd, Nat.zero_add, Nat.add_zero, zero_ne_one', one_ne_zero', Nat.succ_ne_self, false_and, and_true, true_and, if_pos, if_neg, ite_self, Option.some.injEq, reduceCtorEq, binI, intOp, shiftOp, maxI, minI, foldO, List.map_cons, List.map_nil, List.nil_append, List.append_nil, List.cons_append, decide_eq_true, decide_eq_false, decide_true, decide_false, int_beq, int_bne, wrap64, Bool.not_true, Bool.not_false, beq_self_eq_true, beq_tf, beq_ft, endQ_ret, endQ_norm, resultsE, mapO, rvE, loadFrom, PV.cells, PV.fits, PV.good, PV.pure, PV.low, PV.lowL, List.head?_cons, List.drop_zero, List.drop_succ_cons, List.take_succ_cons, List.take_zero, splice, List.length_append, lenOf, elems, fillParts, fillElems, dropSl, freshSlot, headSz_nil, headSz_cons, cleanFor, Fl.full, Ob.gen, look_keep, List.isEmpty_cons, List.isEmpty_nil, Nat.sub_zero, Nat.reduceBEq, Int.natCast_add, Int.natCast_one, natbeq_self, Bool.true_or, Bool.false_or, Bool.or_true, Bool.or_false, Bool.true_and, Bool.and_true, Bool.and_self, Bool.or_self, optD_call, eqTop, eqShL, eqSh, eq_self, ← decide_not, not_true_eq_false, not_false_eq_true, Int.reduceAdd, Int.reduceSub, Int.reduceMul, Int.reduceNeg, Int.reduceTMod, Int.reduceTDiv, Int.reduceLT, Int.reduceLE, Int.reduceEq, Int.reduceToNat, Nat.reduceMul, Nat.reduceSub, List.drop_succ_cons, List.drop_nil, strs_low, flds_low, scts_low, funs_low, h1, rfidx_ok])
        | with_reducible refine condK_bsplit (fun _ => ?_) (fun _ => ?_)
        | with_reducible refine optK_bsplit (fun _ => ?_) (fun _ => ?_)
        | with_reducible refine optD_bsplit (fun _ => ?_) (fun _ => ?_)
    all_goals first | rfl | omega
  · rw [if_neg hn]
    obtain ⟨f, hg, hty⟩ := flds_get (l := l) (j := fdF l nm) (by omega) (by omega)
    rw [hty]
    have hl2 : (l.take (fdF l nm).toNat).length ≤ 1048576 := by simp; omega
    repeat' first
        | with_reducible refine condK_split (fun _ => ?_) (fun _ => ?_)
        | with_reducible refine optK_gsplit (fun _ => ?_) (fun _ => ?_)
        | with_reducible refine optD_gsplit (fun _ => ?_) (fun _ => ?_)
        | ((with_reducible refine K_keep ?_ ?_); · rfl)
        | (simp -implicitDefEqProofs (disch := first | omega | assumption) only [K_nil, K_skip, K_seq, K_reg, K_regd, K_cond, K_block, K_loop, K_exit, K_ret, K_onil, K_ocons, K_inil, K_icons, K_bnorm, K_bret, K_bexit, K_cret, K_cexit, optK_some, optD_c, optD_r, condK_t, condK_f, guS_t, guS_f, guardE, stepX, stepOp, callV, evX, Fr.put, Fr.lay, Fr.nm, layE, POp.slot, nextGen, mk_get, mk_set, mk_len, look, keepL, List.mem_cons, List.not_mem_nil, or_false, false_or, true_or, or_true, ↓reduceIte, hget_0, hset_0, getD_0, List.getElem?_cons_zero, List.getElem?_cons_succ, List.set_cons_zero, List.set_cons_succ, List.length_cons, List.length_nil, Option.bind_some, Option.bind_none, id_eq, Nat.reduceEqDiff, Nat.reduceLT, Nat.reduceLeDiff, Nat.reduceAdd, Nat.zero_add, Nat.add_zero, zero_ne_one', one_ne_zero', Nat.succ_ne_self, false_and, and_true, true_and, if_pos, if_neg, ite_self, Option.some.injEq, reduceCtorEq, binI, intOp, shiftOp, maxI, minI, foldO, List.map_cons, List.map_nil, List.nil_append, List.append_nil, List.cons_append, decide_eq_true, decide_eq_false, decide_true, decide_false, int_beq, int_bne, wrap64, Bool.not_true, Bool.not_false, beq_self_eq_true, beq_tf, beq_ft, endQ_ret, endQ_norm, resultsE, mapO, rvE, loadFrom, PV.cells, PV.fits, PV.good, PV.pure, PV.low, PV.lowL, List.head?_cons, List.drop_zero, List.drop_succ_cons, List.take_succ_cons, List.take_zero, splice, List.length_append, lenOf, elems, fillParts, fillElems, dropSl, freshSlot, headSz_nil, headSz_cons, cleanFor, Fl.full, Ob.gen, look_keep, List.isEmpty_cons, List.isEmpty_nil, Nat.sub_zero, Nat.reduceBEq, Int.natCast_add, Int.natCast_one, natbeq_self, Bool.true_or, Bool.false_or, Bool.or_true, Bool.or_false, Bool.true_and, Bool.and_true, Bool.and_self, Bool.or_self, optD_call, eqTop, eqShL, eqSh, eq_self, ← decide_not, not_true_eq_false, not_false_eq_true, Int.reduceAdd, Int.reduceSub, Int.reduceMul, Int.reduceNeg, Int.reduceTMod, Int.reduceTDiv, Int.reduceLT, Int.reduceLE, Int.reduceEq, Int.reduceToNat, Nat.reduceMul, Nat.reduceSub, List.drop_succ_cons, List.drop_nil, strs_low, flds_low, scts_low, funs_low, h1, rfidx_ok, boundsE, bound, flds_len, flds_head, flds_take, hg, rtotal_ok, hm, hl2])
        | with_reducible refine condK_bsplit (fun _ => ?_) (fun _ => ?_)
        | with_reducible refine optK_bsplit (fun _ => ?_) (fun _ => ?_)
        | with_reducible refine optD_bsplit (fun _ => ?_) (fun _ => ?_)
    all_goals first | rfl | omega
theorem offF_cases (m : Mod) (l : List Fld) (nm : Str) : ∃ n k s b, offF m l nm = .tuple [.int .i64 n, .agg [.int .i64 k, .str s], .bool b] := by
  unfold offF
  split
  · exact ⟨_, _, _, _, rfl⟩
  · exact ⟨_, _, _, _, rfl⟩
theorem law8 (m : Mod) (hm : m.Ok) (fl : Fl) (l : List Fld) (hf : l.length ≤ 1048576) (f : Fld) (h : Heap) : doCall E (callR E) 8 [.agg m.c, .vs fl (flds l), .agg [.str f.name, .int .i64 f.ty.kind, .str f.ty.name]] h = some (.bool true, h) := by
  have h1 := m.hm
  refine call_pure (pf := p8) rfl rfl rfl rfl (by simp [PV.lowL, PV.low, strs_low, flds_low, scts_low, funs_low, h1]) (by simp [PV.low, PV.lowL, strs_low, flds_low, scts_low, funs_low, h1]) ?_ h
  show kQ E _ (endQ [⟨6, none⟩] _) .norm { lvl := 0, tmps := mk 107 [(0, .agg m.c), (1, .vs fl (flds l)), (2, .agg [.str f.name, .int .i64 f.ty.kind, .str f.ty.name])], heap := [[none, none]], defers := [] }
  have pu22 : pureB E 22 = true := rfl
  have pu24 : pureB E 24 = true := rfl
  have pu26 : pureB E 26 = true := rfl
  have pu28 : pureB E 28 = true := rfl
  have pu30 : pureB E 30 = true := rfl
  have pu32 : pureB E 32 = true := rfl
  obtain ⟨n, k, s, b, ho⟩ := offF_cases m l f.name
  repeat' first
      | with_reducible refine condK_split (fun _ => ?_) (fun _ => ?_)
      | with_reducible refine optK_gsplit (fun _ => ?_) (fun _ => ?_)
      | with_reducible refine optD_gsplit (fun _ => ?_) (fun _ => ?_)
      | ((with_reducible refine K_keep ?_ ?_); · rfl)
      | (simp -implicitDefEqProofs (disch := first | omega | assumption) only [K_nil, K_skip, K_seq, K_reg, K_regd, K_cond, K_block, K_loop, K_exit, K_ret, K_onil, K_ocons, K_inil, K_icons, K_bnorm, K_bret, K_bexit, K_cret, K_cexit, optK_some, optD_c, optD_r, condK_t, condK_f, guS_t, guS_f, guardE, stepX, stepOp, callV, evX, Fr.put, Fr.lay, Fr.nm, layE, POp.slot, nextGen, mk_get, mk_set, mk_len, look, keepL, List.mem_cons, List.not_mem_nil, or_false, false_or, true_or, or_true, ↓reduceIte, hget_0, hset_0, getD_0, List.getElem?_cons_zero, List.getElem?_cons_succ, List.set_cons_zero, List.set_cons_succ, List.length_cons, List.length_nil, Option.bind_some, Option.bind_none, id_eq, Nat.reduceEqDiff, Nat.reduceLT, Nat.reduceLeDiff, Nat.reduceAdd, Nat.zero_add, Nat.add_zero, zero_ne_one', one_ne_zero', Nat.succ_ne_self, false_and, and_true, true_and, if_pos, if_neg, ite_self, Option.some.injEq, reduceCtorEq, binI, intOp, shiftOp, maxI, minI, foldO, List.map_cons, List.map_nil, List.nil_append, List.append_nil, List.cons_append, decide_eq_true, decide_eq_false, decide_true, decide_false, int_beq, int_bne, wrap64, Bool.not_true, Bool.not_false, beq_self_eq_true, beq_tf, beq_ft, endQ_ret, endQ_norm, resultsE, mapO, rvE, loadFrom, PV.cells, PV.fits, PV.good, PV.pure, PV.low, PV.lowL, List.head?_cons, List.drop_zero, List.drop_succ_cons, List.take_succ_cons, List.take_zero, splice, List.length_append, lenOf, elems, fillParts, fillElems, dropSl, freshSlot, headSz_nil, headSz_cons, cleanFor, Fl.full, Ob.gen, look_keep, List.isEmpty_cons, List.isEmpty_nil, Nat.sub_zero, Nat.reduceBEq, Int.natCast_add, Int.natCast_one, natbeq_self, Bool.true_or, Bool.false_or, Bool.or_true, Bool.or_false, Bool.true_and, Bool.and_true, Bool.and_self, Bool.or_self, optD_call, eqTop, eqShL, eqSh, eq_self, ← decide_not, not_true_eq_false, not_false_eq_true, Int.reduceAdd, Int.reduceSub, Int.reduceMul, Int.reduceNeg, Int.reduceTMod, Int.reduceTDiv, Int.reduceLT, Int.reduceLE, Int.reduceEq, Int.reduceToNat, Nat.reduceMul, Nat.reduceSub, List.drop_succ_cons, List.drop_nil, strs_low, flds_low, scts_low, funs_low, h1, off_ok, roff_ok, ho, comp_ok, rcomp_ok, total_ok, rtotal_ok, sc_ok, rsc_ok, vc_ok, rvc_ok, find_ok, rfind_ok, findf_ok, rfindf_ok, ex_ok, hm, hf])
      | with_reducible refine condK_bsplit (fun _ => ?_) (fun _ => ?_)
      | with_reducible refine optK_bsplit (fun _ => ?_) (fun _ => ?_)
      | with_reducible refine optD_bsplit (fun _ => ?_) (fun _ => ?_)
end Go.VI.S
