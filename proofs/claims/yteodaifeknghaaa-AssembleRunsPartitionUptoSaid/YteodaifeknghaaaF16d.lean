/- Chapter 16: comparisons of lists; the law AssembleRuns, evaluated. -/
import Derived.Test.YteodaifeknghaaaF16b
import Derived.Test.YteodaifeknghaaaF16c
set_option maxRecDepth 100000
set_option linter.unusedSimpArgs false
namespace Go.VI.S
open Go.VI

def rAt (l : List (List Int)) (j : Int) : List Int := l.getD j.toNat []
theorem encRs_get {l : List (List Int)} {j : Int} (h0 : 0 ≤ j) (h1 : j < l.length) : (encRs l)[j.toNat]? = some (.vs .any (ints (rAt l j))) := by
  have : j.toNat < l.length := by omega
  simp [encRs, encR, rAt, List.getElem?_eq_getElem this]

theorem sr_in {l : List (List Int)} {f1 f2 : Fl} {i : Nat} (hi : i < l.length) (hb : (rAt l i).length ≤ 1048576) {ks : List KI} {Q : PEx → Fr → Prop}
    (hpost : ∀ t, look t 0 = .vs f1 (encRs l) → look t 1 = .vs f2 (encRs l) → look t 5 = .int .i64 i → kQ E ks Q .norm { lvl := 0, tmps := mk 53 t, heap := [[]], defers := [] }) :
    ∀ (m k : Nat) (t : List (Nat × PV)), k + m = (rAt l i).length → look t 0 = .vs f1 (encRs l) → look t 1 = .vs f2 (encRs l) → look t 5 = .int .i64 i → look t 6 = .int .i64 k →
      kQ E (.code p20l1 :: .blk 2 :: ks) Q .norm { lvl := 0, tmps := mk 53 t, heap := [[]], defers := [] } := by
  intro m
  induction m with
  | zero =>
    intro k t hk h0 h1 h5 h6
    refine loopK' (c := p20l1) rfl ?_
    repeat' first
        | with_reducible refine condK_split (fun _ => ?_) (fun _ => ?_)
        | with_reducible refine optK_gsplit (fun _ => ?_) (fun _ => ?_)
        | ((with_reducible refine K_keep ?_ ?_); · rfl)
        | (simp -implicitDefEqProofs (disch := first | omega | assumption) only [K_nil, K_skip, K_seq, K_reg, K_regd, K_cond, K_block, K_loop, K_exit, K_ret, K_onil, K_ocons, K_inil, K_icons, K_bnorm, K_bret, K_bexit, K_cret, K_cexit, optK_some, optD_c, optD_r, condK_t, condK_f, guS_t, guS_f, guardE, stepX, stepOp, callV, evX, Fr.put, Fr.lay, Fr.nm, layE, POp.slot, nextGen, mk_get, mk_set, mk_len, look, keepL, List.mem_cons, List.not_mem_nil, or_false, false_or, true_or, or_true, ↓reduceIte, hget_0, hset_0, getD_0, List.getElem?_cons_zero, List.getElem?_cons_succ, List.set_cons_zero, List.set_cons_succ, List.length_cons, List.length_nil, Option.bind_some, Option.bind_none, id_eq, Nat.reduceEqDiff, Nat.reduceLT, Nat.reduceLeDiff, Nat.reduceAdd, Nat.zero_add, Nat.add_zero, zero_ne_one', one_ne_zero', Nat.succ_ne_self, false_and, and_true, true_and, if_pos, if_neg, ite_self, Option.some.injEq, reduceCtorEq, binI, intOp, shiftOp, maxI, minI, foldO, List.map_cons, List.map_nil, List.nil_append, List.append_nil, List.cons_append, decide_eq_true, decide_eq_false, decide_true, decide_false, int_beq, int_bne, wrap64, Bool.not_true, Bool.not_false, beq_self_eq_true, beq_tf, beq_ft, endQ_ret, endQ_norm, resultsE, mapO, rvE, loadFrom, PV.cells, PV.fits, PV.good, PV.pure, PV.low, PV.lowL, List.head?_cons, List.drop_zero, List.drop_succ_cons, List.take_succ_cons, List.take_zero, splice, List.length_append, lenOf, elems, fillParts, fillElems, dropSl, freshSlot, headSz_nil, headSz_cons, cleanFor, Fl.full, Ob.gen, look_keep, List.isEmpty_cons, List.isEmpty_nil, Nat.sub_zero, Nat.reduceBEq, Int.natCast_add, Int.natCast_one, natbeq_self, Bool.true_or, Bool.false_or, Bool.or_true, Bool.or_false, Bool.true_and, Bool.and_true, Bool.and_self, Bool.or_self, optD_call, eqTop, eqShL, eqSh, eq_self, ← decide_not, not_true_eq_false, not_false_eq_true, Int.reduceAdd, Int.reduceSub, Int.reduceMul, Int.reduceNeg, Int.reduceTMod, Int.reduceTDiv, Int.reduceLT, Int.reduceLE, Int.reduceEq, Int.reduceToNat, Nat.reduceMul, Nat.reduceSub, List.drop_succ_cons, List.drop_nil, h0, h1, h5, h6, encRs_len, encRs_get, ints_len, ints_get])
    exact hpost _ (by simp [look, look_keepL, h0]) (by simp [look, look_keepL, h1]) (by simp [look, look_keepL, h5])
  | succ m ih =>
    intro k t hk h0 h1 h5 h6
    refine loopK' (c := p20l1) rfl ?_
    repeat' first
        | with_reducible refine condK_split (fun _ => ?_) (fun _ => ?_)
        | with_reducible refine optK_gsplit (fun _ => ?_) (fun _ => ?_)
        | ((with_reducible refine K_keep ?_ ?_); · rfl)
        | (simp -implicitDefEqProofs (disch := first | omega | assumption) only [K_nil, K_skip, K_seq, K_reg, K_regd, K_cond, K_block, K_loop, K_exit, K_ret, K_onil, K_ocons, K_inil, K_icons, K_bnorm, K_bret, K_bexit, K_cret, K_cexit, optK_some, optD_c, optD_r, condK_t, condK_f, guS_t, guS_f, guardE, stepX, stepOp, callV, evX, Fr.put, Fr.lay, Fr.nm, layE, POp.slot, nextGen, mk_get, mk_set, mk_len, look, keepL, List.mem_cons, List.not_mem_nil, or_false, false_or, true_or, or_true, ↓reduceIte, hget_0, hset_0, getD_0, List.getElem?_cons_zero, List.getElem?_cons_succ, List.set_cons_zero, List.set_cons_succ, List.length_cons, List.length_nil, Option.bind_some, Option.bind_none, id_eq, Nat.reduceEqDiff, Nat.reduceLT, Nat.reduceLeDiff, Nat.reduceAdd, Nat.zero_add, Nat.add_zero, zero_ne_one', one_ne_zero', Nat.succ_ne_self, false_and, and_true, true_and, if_pos, if_neg, ite_self, Option.some.injEq, reduceCtorEq, binI, intOp, shiftOp, maxI, minI, foldO, List.map_cons, List.map_nil, List.nil_append, List.append_nil, List.cons_append, decide_eq_true, decide_eq_false, decide_true, decide_false, int_beq, int_bne, wrap64, Bool.not_true, Bool.not_false, beq_self_eq_true, beq_tf, beq_ft, endQ_ret, endQ_norm, resultsE, mapO, rvE, loadFrom, PV.cells, PV.fits, PV.good, PV.pure, PV.low, PV.lowL, List.head?_cons, List.drop_zero, List.drop_succ_cons, List.take_succ_cons, List.take_zero, splice, List.length_append, lenOf, elems, fillParts, fillElems, dropSl, freshSlot, headSz_nil, headSz_cons, cleanFor, Fl.full, Ob.gen, look_keep, List.isEmpty_cons, List.isEmpty_nil, Nat.sub_zero, Nat.reduceBEq, Int.natCast_add, Int.natCast_one, natbeq_self, Bool.true_or, Bool.false_or, Bool.or_true, Bool.or_false, Bool.true_and, Bool.and_true, Bool.and_self, Bool.or_self, optD_call, eqTop, eqShL, eqSh, eq_self, ← decide_not, not_true_eq_false, not_false_eq_true, Int.reduceAdd, Int.reduceSub, Int.reduceMul, Int.reduceNeg, Int.reduceTMod, Int.reduceTDiv, Int.reduceLT, Int.reduceLE, Int.reduceEq, Int.reduceToNat, Nat.reduceMul, Nat.reduceSub, List.drop_succ_cons, List.drop_nil, h0, h1, h5, h6, encRs_len, encRs_get, ints_len, ints_get])
    exact ih (k + 1) _ (by omega) (by simp [look, look_keepL, h0]) (by simp [look, look_keepL, h1]) (by simp [look, look_keepL, h5]) (by simp [look])

theorem sr_out {l : List (List Int)} {f1 f2 : Fl} (hl : l.length ≤ 1048576) (hb : ∀ i : Nat, i < l.length → (rAt l i).length ≤ 1048576) {ks : List KI} {Q : PEx → Fr → Prop}
    (hpost : ∀ t, kQ E ks Q .norm { lvl := 0, tmps := mk 53 t, heap := [[]], defers := [] }) :
    ∀ (m i : Nat) (t : List (Nat × PV)), i + m = l.length → look t 0 = .vs f1 (encRs l) → look t 1 = .vs f2 (encRs l) → look t 5 = .int .i64 i →
      kQ E (.code p20l0 :: .blk 0 :: ks) Q .norm { lvl := 0, tmps := mk 53 t, heap := [[]], defers := [] } := by
  intro m
  induction m with
  | zero =>
    intro i t hk h0 h1 h5
    refine loopK' (c := p20l0) rfl ?_
    repeat' first
        | with_reducible refine condK_split (fun _ => ?_) (fun _ => ?_)
        | with_reducible refine optK_gsplit (fun _ => ?_) (fun _ => ?_)
        | ((with_reducible refine K_keep ?_ ?_); · rfl)
        | (simp -implicitDefEqProofs (disch := first | omega | assumption) only [K_nil, K_skip, K_seq, K_reg, K_regd, K_cond, K_block, K_loop, K_exit, K_ret, K_onil, K_ocons, K_inil, K_icons, K_bnorm, K_bret, K_bexit, K_cret, K_cexit, optK_some, optD_c, optD_r, condK_t, condK_f, guS_t, guS_f, guardE, stepX, stepOp, callV, evX, Fr.put, Fr.lay, Fr.nm, layE, POp.slot, nextGen, mk_get, mk_set, mk_len, look, keepL, List.mem_cons, List.not_mem_nil, or_false, false_or, true_or, or_true, ↓reduceIte, hget_0, hset_0, getD_0, List.getElem?_cons_zero, List.getElem?_cons_succ, List.set_cons_zero, List.set_cons_succ, List.length_cons, List.length_nil, Option.bind_some, Option.bind_none, id_eq, Nat.reduceEqDiff, Nat.reduceLT, Nat.reduceLeDiff, Nat.reduceAdd, Nat.zero_add, Nat.add_zero, zero_ne_one', one_ne_zero', Nat.succ_ne_self, false_and, and_true, true_and, if_pos, if_neg, ite_self, Option.some.injEq, reduceCtorEq, binI, intOp, shiftOp, maxI, minI, foldO, List.map_cons, List.map_nil, List.nil_append, List.append_nil, List.cons_append, decide_eq_true, decide_eq_false, decide_true, decide_false, int_beq, int_bne, wrap64, Bool.not_true, Bool.not_false, beq_self_eq_true, beq_tf, beq_ft, endQ_ret, endQ_norm, resultsE, mapO, rvE, loadFrom, PV.cells, PV.fits, PV.good, PV.pure, PV.low, PV.lowL, List.head?_cons, List.drop_zero, List.drop_succ_cons, List.take_succ_cons, List.take_zero, splice, List.length_append, lenOf, elems, fillParts, fillElems, dropSl, freshSlot, headSz_nil, headSz_cons, cleanFor, Fl.full, Ob.gen, look_keep, List.isEmpty_cons, List.isEmpty_nil, Nat.sub_zero, Nat.reduceBEq, Int.natCast_add, Int.natCast_one, natbeq_self, Bool.true_or, Bool.false_or, Bool.or_true, Bool.or_false, Bool.true_and, Bool.and_true, Bool.and_self, Bool.or_self, optD_call, eqTop, eqShL, eqSh, eq_self, ← decide_not, not_true_eq_false, not_false_eq_true, Int.reduceAdd, Int.reduceSub, Int.reduceMul, Int.reduceNeg, Int.reduceTMod, Int.reduceTDiv, Int.reduceLT, Int.reduceLE, Int.reduceEq, Int.reduceToNat, Nat.reduceMul, Nat.reduceSub, List.drop_succ_cons, List.drop_nil, h0, h1, h5, encRs_len, encRs_get, ints_len, ints_get])
    exact hpost _
  | succ m ih =>
    intro i t hk h0 h1 h5
    have hi : i < l.length := by omega
    refine loopK' (c := p20l0) rfl ?_
    repeat' first
        | with_reducible refine condK_split (fun _ => ?_) (fun _ => ?_)
        | with_reducible refine optK_gsplit (fun _ => ?_) (fun _ => ?_)
        | ((with_reducible refine K_keep ?_ ?_); · rfl)
        | (simp -implicitDefEqProofs (disch := first | omega | assumption) only [K_nil, K_skip, K_seq, K_reg, K_regd, K_cond, K_block, K_loop, K_exit, K_ret, K_onil, K_ocons, K_inil, K_icons, K_bnorm, K_bret, K_bexit, K_cret, K_cexit, optK_some, optD_c, optD_r, condK_t, condK_f, guS_t, guS_f, guardE, stepX, stepOp, callV, evX, Fr.put, Fr.lay, Fr.nm, layE, POp.slot, nextGen, mk_get, mk_set, mk_len, look, keepL, List.mem_cons, List.not_mem_nil, or_false, false_or, true_or, or_true, ↓reduceIte, hget_0, hset_0, getD_0, List.getElem?_cons_zero, List.getElem?_cons_succ, List.set_cons_zero, List.set_cons_succ, List.length_cons, List.length_nil, Option.bind_some, Option.bind_none, id_eq, Nat.reduceEqDiff, Nat.reduceLT, Nat.reduceLeDiff, Nat.reduceAdd, Nat.zero_add, Nat.add_zero, zero_ne_one', one_ne_zero', Nat.succ_ne_self, false_and, and_true, true_and, if_pos, if_neg, ite_self, Option.some.injEq, reduceCtorEq, binI, intOp, shiftOp, maxI, minI, foldO, List.map_cons, List.map_nil, List.nil_append, List.append_nil, List.cons_append, decide_eq_true, decide_eq_false, decide_true, decide_false, int_beq, int_bne, wrap64, Bool.not_true, Bool.not_false, beq_self_eq_true, beq_tf, beq_ft, endQ_ret, endQ_norm, resultsE, mapO, rvE, loadFrom, PV.cells, PV.fits, PV.good, PV.pure, PV.low, PV.lowL, List.head?_cons, List.drop_zero, List.drop_succ_cons, List.take_succ_cons, List.take_zero, splice, List.length_append, lenOf, elems, fillParts, fillElems, dropSl, freshSlot, headSz_nil, headSz_cons, cleanFor, Fl.full, Ob.gen, look_keep, List.isEmpty_cons, List.isEmpty_nil, Nat.sub_zero, Nat.reduceBEq, Int.natCast_add, Int.natCast_one, natbeq_self, Bool.true_or, Bool.false_or, Bool.or_true, Bool.or_false, Bool.true_and, Bool.and_true, Bool.and_self, Bool.or_self, optD_call, eqTop, eqShL, eqSh, eq_self, ← decide_not, not_true_eq_false, not_false_eq_true, Int.reduceAdd, Int.reduceSub, Int.reduceMul, Int.reduceNeg, Int.reduceTMod, Int.reduceTDiv, Int.reduceLT, Int.reduceLE, Int.reduceEq, Int.reduceToNat, Nat.reduceMul, Nat.reduceSub, List.drop_succ_cons, List.drop_nil, h0, h1, h5, encRs_len, encRs_get, ints_len, ints_get])
    refine sr_in (l := l) (f1 := f1) (f2 := f2) (i := i) hi (hb i hi) ?_ (rAt l i).length 0 _ (by simp) (by simp [look, look_keepL, h0]) (by simp [look, look_keepL, h1]) (by simp [look, look_keepL, h5]) (by simp [look])
    intro t' h0' h1' h5'
    repeat' first
        | with_reducible refine condK_split (fun _ => ?_) (fun _ => ?_)
        | with_reducible refine optK_gsplit (fun _ => ?_) (fun _ => ?_)
        | ((with_reducible refine K_keep ?_ ?_); · rfl)
        | (simp -implicitDefEqProofs (disch := first | omega | assumption) only [K_nil, K_skip, K_seq, K_reg, K_regd, K_cond, K_block, K_loop, K_exit, K_ret, K_onil, K_ocons, K_inil, K_icons, K_bnorm, K_bret, K_bexit, K_cret, K_cexit, optK_some, optD_c, optD_r, condK_t, condK_f, guS_t, guS_f, guardE, stepX, stepOp, callV, evX, Fr.put, Fr.lay, Fr.nm, layE, POp.slot, nextGen, mk_get, mk_set, mk_len, look, keepL, List.mem_cons, List.not_mem_nil, or_false, false_or, true_or, or_true, ↓reduceIte, hget_0, hset_0, getD_0, List.getElem?_cons_zero, List.getElem?_cons_succ, List.set_cons_zero, List.set_cons_succ, List.length_cons, List.length_nil, Option.bind_some, Option.bind_none, id_eq, Nat.reduceEqDiff, Nat.reduceLT, Nat.reduceLeDiff, Nat.reduceAdd, Nat.zero_add, Nat.add_zero, zero_ne_one', one_ne_zero', Nat.succ_ne_self, false_and, and_true, true_and, if_pos, if_neg, ite_self, Option.some.injEq, reduceCtorEq, binI, intOp, shiftOp, maxI, minI, foldO, List.map_cons, List.map_nil, List.nil_append, List.append_nil, List.cons_append, decide_eq_true, decide_eq_false, decide_true, decide_false, int_beq, int_bne, wrap64, Bool.not_true, Bool.not_false, beq_self_eq_true, beq_tf, beq_ft, endQ_ret, endQ_norm, resultsE, mapO, rvE, loadFrom, PV.cells, PV.fits, PV.good, PV.pure, PV.low, PV.lowL, List.head?_cons, List.drop_zero, List.drop_succ_cons, List.take_succ_cons, List.take_zero, splice, List.length_append, lenOf, elems, fillParts, fillElems, dropSl, freshSlot, headSz_nil, headSz_cons, cleanFor, Fl.full, Ob.gen, look_keep, List.isEmpty_cons, List.isEmpty_nil, Nat.sub_zero, Nat.reduceBEq, Int.natCast_add, Int.natCast_one, natbeq_self, Bool.true_or, Bool.false_or, Bool.or_true, Bool.or_false, Bool.true_and, Bool.and_true, Bool.and_self, Bool.or_self, optD_call, eqTop, eqShL, eqSh, eq_self, ← decide_not, not_true_eq_false, not_false_eq_true, Int.reduceAdd, Int.reduceSub, Int.reduceMul, Int.reduceNeg, Int.reduceTMod, Int.reduceTDiv, Int.reduceLT, Int.reduceLE, Int.reduceEq, Int.reduceToNat, Nat.reduceMul, Nat.reduceSub, List.drop_succ_cons, List.drop_nil, h0', h1', h5'])
    exact ih (i + 1) _ (by omega) (by simp [look, look_keepL, h0']) (by simp [look, look_keepL, h1']) (by simp [look])

theorem sameRuns_ok (f1 f2 : Fl) (l : List (List Int)) (hl : l.length ≤ 1048576) (hb : ∀ i : Nat, i < l.length → (rAt l i).length ≤ 1048576) (h : Heap) : doCall E (callR E) 20 [.vs f1 (encRs l), .vs f2 (encRs l)] h = some (.bool true, h) := by
  refine call_pure (pf := p20) rfl rfl rfl rfl (by simp [PV.lowL, PV.low]) (by simp [PV.low, PV.lowL]) ?_ h
  show kQ E _ (endQ [⟨4, none⟩] _) .norm { lvl := 0, tmps := mk 53 [(0, .vs f1 (encRs l)), (1, .vs f2 (encRs l))], heap := [[]], defers := [] }
  repeat' first
      | with_reducible refine condK_split (fun _ => ?_) (fun _ => ?_)
      | with_reducible refine optK_gsplit (fun _ => ?_) (fun _ => ?_)
      | ((with_reducible refine K_keep ?_ ?_); · rfl)
      | (simp -implicitDefEqProofs (disch := first | omega | assumption) only [K_nil, K_skip, K_seq, K_reg, K_regd, K_cond, K_block, K_loop, K_exit, K_ret, K_onil, K_ocons, K_inil, K_icons, K_bnorm, K_bret, K_bexit, K_cret, K_cexit, optK_some, optD_c, optD_r, condK_t, condK_f, guS_t, guS_f, guardE, stepX, stepOp, callV, evX, Fr.put, Fr.lay, Fr.nm, layE, POp.slot, nextGen, mk_get, mk_set, mk_len, look, keepL, List.mem_cons, List.not_mem_nil, or_false, false_or, true_or, or_true, ↓reduceIte, hget_0, hset_0, getD_0, List.getElem?_cons_zero, List.getElem?_cons_succ, List.set_cons_zero, List.set_cons_succ, List.length_cons, List.length_nil, Option.bind_some, Option.bind_none, id_eq, Nat.reduceEqDiff, Nat.reduceLT, Nat.reduceLeDiff, Nat.reduceAdd, Nat.zero_add, Nat.add_zero, zero_ne_one', one_ne_zero', Nat.succ_ne_self, false_and, and_true, true_and, if_pos, if_neg, ite_self, Option.some.injEq, reduceCtorEq, binI, intOp, shiftOp, maxI, minI, foldO, List.map_cons, List.map_nil, List.nil_append, List.append_nil, List.cons_append, decide_eq_true, decide_eq_false, decide_true, decide_false, int_beq, int_bne, wrap64, Bool.not_true, Bool.not_false, beq_self_eq_true, beq_tf, beq_ft, endQ_ret, endQ_norm, resultsE, mapO, rvE, loadFrom, PV.cells, PV.fits, PV.good, PV.pure, PV.low, PV.lowL, List.head?_cons, List.drop_zero, List.drop_succ_cons, List.take_succ_cons, List.take_zero, splice, List.length_append, lenOf, elems, fillParts, fillElems, dropSl, freshSlot, headSz_nil, headSz_cons, cleanFor, Fl.full, Ob.gen, look_keep, List.isEmpty_cons, List.isEmpty_nil, Nat.sub_zero, Nat.reduceBEq, Int.natCast_add, Int.natCast_one, natbeq_self, Bool.true_or, Bool.false_or, Bool.or_true, Bool.or_false, Bool.true_and, Bool.and_true, Bool.and_self, Bool.or_self, optD_call, eqTop, eqShL, eqSh, eq_self, ← decide_not, not_true_eq_false, not_false_eq_true, Int.reduceAdd, Int.reduceSub, Int.reduceMul, Int.reduceNeg, Int.reduceTMod, Int.reduceTDiv, Int.reduceLT, Int.reduceLE, Int.reduceEq, Int.reduceToNat, Nat.reduceMul, Nat.reduceSub, List.drop_succ_cons, List.drop_nil, encRs_len])
  refine sr_out (l := l) (f1 := f1) (f2 := f2) hl hb ?_ l.length 0 _ (by simp) (by simp [look, look_keepL]) (by simp [look, look_keepL]) (by simp [look])
  intro t
  repeat' first
      | with_reducible refine condK_split (fun _ => ?_) (fun _ => ?_)
      | with_reducible refine optK_gsplit (fun _ => ?_) (fun _ => ?_)
      | ((with_reducible refine K_keep ?_ ?_); · rfl)
      | (simp -implicitDefEqProofs (disch := first | omega | assumption) only [K_nil, K_skip, K_seq, K_reg, K_regd, K_cond, K_block, K_loop, K_exit, K_ret, K_onil, K_ocons, K_inil, K_icons, K_bnorm, K_bret, K_bexit, K_cret, K_cexit, optK_some, optD_c, optD_r, condK_t, condK_f, guS_t, guS_f, guardE, stepX, stepOp, callV, evX, Fr.put, Fr.lay, Fr.nm, layE, POp.slot, nextGen, mk_get, mk_set, mk_len, look, keepL, List.mem_cons, List.not_mem_nil, or_false, false_or, true_or, or_true, ↓reduceIte, hget_0, hset_0, getD_0, List.getElem?_cons_zero, List.getElem?_cons_succ, List.set_cons_zero, List.set_cons_succ, List.length_cons, List.length_nil, Option.bind_some, Option.bind_none, id_eq, Nat.reduceEqDiff, Nat.reduceLT, Nat.reduceLeDiff, Nat.reduceAdd, Nat.zero_add, Nat.add_zero, zero_ne_one', one_ne_zero', Nat.succ_ne_self, false_and, and_true, true_and, if_pos, if_neg, ite_self, Option.some.injEq, reduceCtorEq, binI, intOp, shiftOp, maxI, minI, foldO, List.map_cons, List.map_nil, List.nil_append, List.append_nil, List.cons_append, decide_eq_true, decide_eq_false, decide_true, decide_false, int_beq, int_bne, wrap64, Bool.not_true, Bool.not_false, beq_self_eq_true, beq_tf, beq_ft, endQ_ret, endQ_norm, resultsE, mapO, rvE, loadFrom, PV.cells, PV.fits, PV.good, PV.pure, PV.low, PV.lowL, List.head?_cons, List.drop_zero, List.drop_succ_cons, List.take_succ_cons, List.take_zero, splice, List.length_append, lenOf, elems, fillParts, fillElems, dropSl, freshSlot, headSz_nil, headSz_cons, cleanFor, Fl.full, Ob.gen, look_keep, List.isEmpty_cons, List.isEmpty_nil, Nat.sub_zero, Nat.reduceBEq, Int.natCast_add, Int.natCast_one, natbeq_self, Bool.true_or, Bool.false_or, Bool.or_true, Bool.or_false, Bool.true_and, Bool.and_true, Bool.and_self, Bool.or_self, optD_call, eqTop, eqShL, eqSh, eq_self, ← decide_not, not_true_eq_false, not_false_eq_true, Int.reduceAdd, Int.reduceSub, Int.reduceMul, Int.reduceNeg, Int.reduceTMod, Int.reduceTDiv, Int.reduceLT, Int.reduceLE, Int.reduceEq, Int.reduceToNat, Nat.reduceMul, Nat.reduceSub, List.drop_succ_cons, List.drop_nil])

theorem runsG_len : ∀ (zs run : List Int) (out : List (List Int)) (B : Nat), run.length + zs.length ≤ B → (∀ r ∈ out, r.length ≤ B) → ∀ r ∈ runsG zs run out, r.length ≤ B
  | [], run, out, B, h1, h2, r, hr => by
    unfold runsG at hr
    split at hr
    · exact h2 r hr
    · rcases List.mem_append.1 hr with hr | hr
      · exact h2 r hr
      · simp at hr; subst hr; simp at h1; omega
  | z :: zs, run, out, B, h1, h2, r, hr => by
    unfold runsG at hr
    simp only [List.length_cons] at h1
    split at hr
    · exact runsG_len zs _ _ B (by simp; omega) h2 r hr
    · split at hr
      · exact runsG_len zs _ _ B (by simp; omega) h2 r hr
      · refine runsG_len zs _ _ B (by simp; omega) (fun x hx => ?_) r hr
        rcases List.mem_append.1 hx with hx | hx
        · exact h2 x hx
        · simp at hx; subst hx; omega

theorem runsF_len (zs : List Int) : (runsF zs).length ≤ zs.length := by
  have := runs_bound zs [] []
  simpa [runsF] using this

theorem runsF_each (zs : List Int) (i : Nat) (hi : i < (runsF zs).length) : (rAt (runsF zs) i).length ≤ zs.length := by
  have : rAt (runsF zs) i ∈ runsF zs := by simp [rAt, List.getElem?_eq_getElem hi]
  exact runsG_len zs [] [] zs.length (by simp) (fun r hr => by cases hr) _ this

theorem law4 (f : Fl) (zs : List Int) (hz : zs.length ≤ 1048576) (h : Heap) : doCall E (callR E) 4 [.vs f (ints zs)] h = some (.bool true, h) := by
  have h1 := runsF_len zs
  have h2 : ∀ i : Nat, i < (runsF zs).length → (rAt (runsF zs) i).length ≤ 1048576 := fun i hi => Nat.le_trans (runsF_each zs i hi) hz
  have h3 := sameRuns_ok .any .any (runsF zs) (by omega) h2
  refine call_pure (pf := p4) rfl rfl rfl rfl (by simp [PV.lowL, PV.low]) (by simp [PV.low, PV.lowL]) ?_ h
  show kQ E _ (endQ [⟨2, none⟩] _) .norm { lvl := 0, tmps := mk 11 [(0, .vs f (ints zs))], heap := [[]], defers := [] }
  repeat' first
      | with_reducible refine condK_split (fun _ => ?_) (fun _ => ?_)
      | with_reducible refine optK_gsplit (fun _ => ?_) (fun _ => ?_)
      | ((with_reducible refine K_keep ?_ ?_); · rfl)
      | (simp -implicitDefEqProofs (disch := first | omega | assumption) only [K_nil, K_skip, K_seq, K_reg, K_regd, K_cond, K_block, K_loop, K_exit, K_ret, K_onil, K_ocons, K_inil, K_icons, K_bnorm, K_bret, K_bexit, K_cret, K_cexit, optK_some, optD_c, optD_r, condK_t, condK_f, guS_t, guS_f, guardE, stepX, stepOp, callV, evX, Fr.put, Fr.lay, Fr.nm, layE, POp.slot, nextGen, mk_get, mk_set, mk_len, look, keepL, List.mem_cons, List.not_mem_nil, or_false, false_or, true_or, or_true, ↓reduceIte, hget_0, hset_0, getD_0, List.getElem?_cons_zero, List.getElem?_cons_succ, List.set_cons_zero, List.set_cons_succ, List.length_cons, List.length_nil, Option.bind_some, Option.bind_none, id_eq, Nat.reduceEqDiff, Nat.reduceLT, Nat.reduceLeDiff, Nat.reduceAdd, Nat.zero_add, Nat.add_zero, zero_ne_one', one_ne_zero', Nat.succ_ne_self, false_and, and_true, true_and, if_pos, if_neg, ite_self, Option.some.injEq, reduceCtorEq, binI, intOp, shiftOp, maxI, minI, foldO, List.map_cons, List.map_nil, List.nil_append, List.append_nil, List.cons_append, decide_eq_true, decide_eq_false, decide_true, decide_false, int_beq, int_bne, wrap64, Bool.not_true, Bool.not_false, beq_self_eq_true, beq_tf, beq_ft, endQ_ret, endQ_norm, resultsE, mapO, rvE, loadFrom, PV.cells, PV.fits, PV.good, PV.pure, PV.low, PV.lowL, List.head?_cons, List.drop_zero, List.drop_succ_cons, List.take_succ_cons, List.take_zero, splice, List.length_append, lenOf, elems, fillParts, fillElems, dropSl, freshSlot, headSz_nil, headSz_cons, cleanFor, Fl.full, Ob.gen, look_keep, List.isEmpty_cons, List.isEmpty_nil, Nat.sub_zero, Nat.reduceBEq, Int.natCast_add, Int.natCast_one, natbeq_self, Bool.true_or, Bool.false_or, Bool.or_true, Bool.or_false, Bool.true_and, Bool.and_true, Bool.and_self, Bool.or_self, optD_call, eqTop, eqShL, eqSh, eq_self, ← decide_not, not_true_eq_false, not_false_eq_true, Int.reduceAdd, Int.reduceSub, Int.reduceMul, Int.reduceNeg, Int.reduceTMod, Int.reduceTDiv, Int.reduceLT, Int.reduceLE, Int.reduceEq, Int.reduceToNat, Nat.reduceMul, Nat.reduceSub, List.drop_succ_cons, List.drop_nil, ints_len, runs_ok, rruns_ok, h3, ex_ok])
end Go.VI.S
