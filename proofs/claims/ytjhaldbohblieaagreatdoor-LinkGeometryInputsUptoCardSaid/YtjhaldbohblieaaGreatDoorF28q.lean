/- Chapter 28: the law LinkGeometryInputs, evaluated. -/
import Derived.Test.YtjhaldbohblieaaGreatDoorF28p
import Derived.Test.YtjhaldbohblieaaGreatDoorX28
set_option maxRecDepth 100000
set_option linter.unusedSimpArgs false
set_option linter.unusedVariables false
set_option pp.deepTerms.threshold 4
set_option pp.deepTerms false
namespace Go.VI.S
open Go.VI
theorem fld_get {l : List Fld} {i : Nat} (h : i < l.length) : ∃ f : Fld, f ∈ l ∧ l[i]? = some f ∧ (flds l)[i]? = some (.agg [.str f.name, .int .i64 f.ty.kind, .str f.ty.name]) :=
  ⟨l[i], List.getElem_mem _, by simp [h], by simp [flds, h]⟩
theorem gi_get {m : Mod} {f : Fld} {i j : Nat} (hf : m.outs[j]? = some f) : (i = j → (flds (giF m))[i]? = some (.agg [.str (f.name ++ [48]), .int .i64 f.ty.kind, .str f.ty.name])) ∧ (i = m.outs.length + j → (flds (giF m))[i]? = some (.agg [.str (f.name ++ [49]), .int .i64 f.ty.kind, .str f.ty.name])) ∧ (i = m.outs.length + m.outs.length + j → (flds (giF m))[i]? = some (.agg [.str (f.name ++ [50]), .int .i64 f.ty.kind, .str f.ty.name])) := by
  have hj : j < m.outs.length := (List.getElem?_eq_some_iff.1 hf).1
  have hj' : m.outs[j] = f := (List.getElem?_eq_some_iff.1 hf).2
  refine ⟨fun h => ?_, fun h => ?_, fun h => ?_⟩
  · subst h; simp [flds, giF, addN, List.getElem?_append, hj, hj', show i < m.outs.length + m.outs.length from by omega]
  · subst h; simp [flds, giF, addN, List.getElem?_append, hj, hj']
  · subst h
    have a : ¬ m.outs.length + m.outs.length + j < m.outs.length := by omega
    have b : ¬ m.outs.length + m.outs.length + j - m.outs.length < m.outs.length := by omega
    have c : m.outs.length + m.outs.length + j - m.outs.length - m.outs.length = j := by omega
    simp [flds, giF, addN, List.getElem?_append, a, b, c, hj', hf]
theorem tmod_nat {i n j q : Nat} (h : i = q * n + j) (hj : j < n) : (i : Int).tmod n = j := by
  rw [Int.tmod_eq_emod_of_nonneg (by omega)]
  subst h
  rw [← Int.natCast_emod, Nat.mul_comm, Nat.mul_add_mod, Nat.mod_eq_of_lt hj]

theorem l7a (m : Mod) (hm : OutOk m) {u4 : PV} {ks : List KI} {Q : PEx → Fr → Prop} (hn : ∀ t o, look t 1 = .ip m.c → look t 4 = u4 → kQ E ks Q .norm { lvl := 0, tmps := mk 88 t, heap := [[o]], defers := [] }) :
    ∀ (k i : Nat) (o : Option Ob) (t : List (Nat × PV)), i + k = 3 * m.outs.length → look t 1 = .ip m.c → look t 3 = .vs .any (flds (giF m)) → look t 4 = u4 → look t 5 = .int .i64 m.outs.length → look t 6 = .int .i64 i →
      kQ E (.code p7l0 :: .blk 0 :: ks) Q .norm { lvl := 0, tmps := mk 88 t, heap := [[o]], defers := [] } := by
  have h2 := hm.len
  intro k
  induction k with
  | zero =>
    intro i o t hi h1 h3 h4 h5 h6
    refine loopK' (c := p7l0) rfl ?_
    repeat' first
        | with_reducible refine condK_split (fun _ => ?_) (fun _ => ?_)
        | with_reducible refine optK_gsplit (fun _ => ?_) (fun _ => ?_)
        | with_reducible refine optD_gsplit (fun _ => ?_) (fun _ => ?_)
        | ((with_reducible refine K_keep ?_ ?_); · rfl)
        | (simp -implicitDefEqProofs (disch := first | omega | assumption) only [K_nil, K_skip, K_seq, K_reg, K_regd, K_cond, K_block, K_loop, K_exit, K_ret, K_onil, K_ocons, K_inil, K_icons, K_bnorm, K_bret, K_bexit, K_cret, K_cexit, optK_some, optD_c, optD_r, condK_t, condK_f, guS_t, guS_f, guardE, stepX, stepOp, callV, evX, Fr.put, Fr.lay, Fr.nm, layE, POp.slot, nextGen, mk_get, mk_set, mk_len, look, keepL, List.mem_cons, List.not_mem_nil, or_false, false_or, true_or, or_true, ↓reduceIte, hget_0, hset_0, getD_0, List.getElem?_cons_zero, List.getElem?_cons_succ, List.set_cons_zero, List.set_cons_succ, List.length_cons, List.length_nil, Option.bind_some, Option.bind_none, id_eq, Nat.reduceEqDiff, Nat.reduceLT, Nat.reduceLeDiff, Nat.reduceAdd, Nat.zero_add, Nat.add_zero, zero_ne_one', one_ne_zero', Nat.succ_ne_self, false_and, and_true, true_and, if_pos, if_neg, ite_self, Option.some.injEq, reduceCtorEq, binI, intOp, shiftOp, maxI, minI, foldO, List.map_cons, List.map_nil, List.nil_append, List.append_nil, List.cons_append, decide_eq_true, decide_eq_false, decide_true, decide_false, int_beq, int_bne, wrap64, Bool.not_true, Bool.not_false, beq_self_eq_true, beq_tf, beq_ft, endQ_ret, endQ_norm, resultsE, mapO, rvE, loadFrom, PV.cells, PV.fits, PV.good, PV.pure, PV.low, PV.lowL, List.head?_cons, List.drop_zero, List.drop_succ_cons, List.take_succ_cons, List.take_zero, splice, List.length_append, lenOf, elems, fillParts, fillElems, dropSl, freshSlot, headSz_nil, headSz_cons, cleanFor, Fl.full, Ob.gen, look_keep, List.isEmpty_cons, List.isEmpty_nil, Nat.sub_zero, Nat.reduceBEq, Int.natCast_add, Int.natCast_one, natbeq_self, Bool.true_or, Bool.false_or, Bool.or_true, Bool.or_false, Bool.true_and, Bool.and_true, Bool.and_self, Bool.or_self, optD_call, eqTop, eqShL, eqSh, eq_self, ← decide_not, not_true_eq_false, not_false_eq_true, Int.reduceAdd, Int.reduceSub, Int.reduceMul, Int.reduceNeg, Int.reduceTMod, Int.reduceTDiv, Int.reduceLT, Int.reduceLE, Int.reduceEq, Int.reduceToNat, Nat.reduceMul, Nat.reduceSub, List.drop_succ_cons, List.drop_nil, h1, h3, h4, h5, h6])
        | with_reducible refine condK_bsplit (fun _ => ?_) (fun _ => ?_)
        | with_reducible refine optK_bsplit (fun _ => ?_) (fun _ => ?_)
        | with_reducible refine optD_bsplit (fun _ => ?_) (fun _ => ?_)
    exact hn _ _ (by simp [look, look_keepL, h1]) (by simp [look, look_keepL, h4])
  | succ k ih =>
    intro i o t hi h1 h3 h4 h5 h6
    have hc : (∃ j, i = j ∧ j < m.outs.length) ∨ (∃ j, i = m.outs.length + j ∧ j < m.outs.length) ∨ (∃ j, i = m.outs.length + m.outs.length + j ∧ j < m.outs.length) := by
      by_cases a : i < m.outs.length
      · exact .inl ⟨i, rfl, a⟩
      · by_cases b : i < m.outs.length + m.outs.length
        · exact .inr (.inl ⟨i - m.outs.length, by omega, by omega⟩)
        · exact .inr (.inr ⟨i - m.outs.length - m.outs.length, by omega, by omega⟩)
    have hgl : (flds (giF m)).length = 3 * m.outs.length := by rw [flds_len, giF_len]
    cases o
    all_goals
      rcases hc with ⟨j, hij, hj⟩ | ⟨j, hij, hj⟩ | ⟨j, hij, hj⟩
      · obtain ⟨f, hf, hj1, hj2⟩ := fld_get hj
        have hg := (gi_get (i := i) hj1).1 hij
        have hmod : (i : Int).tmod m.outs.length = j := tmod_nat (q := 0) (by omega) hj
        have hnm := hm.nm f hf
        refine loopK' (c := p7l0) rfl ?_
        repeat' first
            | with_reducible refine condK_split (fun _ => ?_) (fun _ => ?_)
            | with_reducible refine optK_gsplit (fun _ => ?_) (fun _ => ?_)
            | with_reducible refine optD_gsplit (fun _ => ?_) (fun _ => ?_)
            | ((with_reducible refine K_keep ?_ ?_); · rfl)
            | (simp -implicitDefEqProofs (disch := first | omega | assumption) only [K_nil, K_skip, K_seq, K_reg, K_regd, K_cond, K_block, K_loop, K_exit, K_ret, K_onil, K_ocons, K_inil, K_icons, K_bnorm, K_bret, K_bexit, K_cret, K_cexit, optK_some, optD_c, optD_r, condK_t, condK_f, guS_t, guS_f, guardE, stepX, stepOp, callV, evX, Fr.put, Fr.lay, Fr.nm, layE, POp.slot, nextGen, mk_get, mk_set, mk_len, look, keepL, List.mem_cons, List.not_mem_nil, or_false, false_or, true_or, or_true, ↓reduceIte, hget_0, hset_0, getD_0, List.getElem?_cons_zero, List.getElem?_cons_succ, List.set_cons_zero, List.set_cons_succ, List.length_cons, List.length_nil, Option.bind_some, Option.bind_none, id_eq, Nat.reduceEqDiff, Nat.reduceLT, Nat.reduceLeDiff, Nat.reduceAdd, Nat.zero_add, Nat.add_zero, zero_ne_one', one_ne_zero', Nat.succ_ne_self, false_and, and_true, true_and, if_pos, if_neg, ite_self, Option.some.injEq, reduceCtorEq, binI, intOp, shiftOp, maxI, minI, foldO, List.map_cons, List.map_nil, List.nil_append, List.append_nil, List.cons_append, decide_eq_true, decide_eq_false, decide_true, decide_false, int_beq, int_bne, wrap64, Bool.not_true, Bool.not_false, beq_self_eq_true, beq_tf, beq_ft, endQ_ret, endQ_norm, resultsE, mapO, rvE, loadFrom, PV.cells, PV.fits, PV.good, PV.pure, PV.low, PV.lowL, List.head?_cons, List.drop_zero, List.drop_succ_cons, List.take_succ_cons, List.take_zero, splice, List.length_append, lenOf, elems, fillParts, fillElems, dropSl, freshSlot, headSz_nil, headSz_cons, cleanFor, Fl.full, Ob.gen, look_keep, List.isEmpty_cons, List.isEmpty_nil, Nat.sub_zero, Nat.reduceBEq, Int.natCast_add, Int.natCast_one, natbeq_self, Bool.true_or, Bool.false_or, Bool.or_true, Bool.or_false, Bool.true_and, Bool.and_true, Bool.and_self, Bool.or_self, optD_call, eqTop, eqShL, eqSh, eq_self, ← decide_not, not_true_eq_false, not_false_eq_true, Int.reduceAdd, Int.reduceSub, Int.reduceMul, Int.reduceNeg, Int.reduceTMod, Int.reduceTDiv, Int.reduceLT, Int.reduceLE, Int.reduceEq, Int.reduceToNat, Nat.reduceMul, Nat.reduceSub, List.drop_succ_cons, List.drop_nil, h1, h3, h4, h5, h6, hg, hj2, hmod, flds_len, hgl, Int.toNat_natCast, binS, str_beq])
            | with_reducible refine condK_bsplit (fun _ => ?_) (fun _ => ?_)
            | with_reducible refine optK_bsplit (fun _ => ?_) (fun _ => ?_)
            | with_reducible refine optD_bsplit (fun _ => ?_) (fun _ => ?_)
        refine ih (i + 1) _ _ (by omega) (by simp [look, look_keepL, h1]) (by simp [look, look_keepL, h3]) (by simp [look, look_keepL, h4]) (by simp [look, look_keepL, h5]) (by simp [look, look_keepL])
      · obtain ⟨f, hf, hj1, hj2⟩ := fld_get hj
        have hg := (gi_get (i := i) hj1).2.1 hij
        have hmod : (i : Int).tmod m.outs.length = j := tmod_nat (q := 1) (by omega) hj
        have hnm := hm.nm f hf
        refine loopK' (c := p7l0) rfl ?_
        repeat' first
            | with_reducible refine condK_split (fun _ => ?_) (fun _ => ?_)
            | with_reducible refine optK_gsplit (fun _ => ?_) (fun _ => ?_)
            | with_reducible refine optD_gsplit (fun _ => ?_) (fun _ => ?_)
            | ((with_reducible refine K_keep ?_ ?_); · rfl)
            | (simp -implicitDefEqProofs (disch := first | omega | assumption) only [K_nil, K_skip, K_seq, K_reg, K_regd, K_cond, K_block, K_loop, K_exit, K_ret, K_onil, K_ocons, K_inil, K_icons, K_bnorm, K_bret, K_bexit, K_cret, K_cexit, optK_some, optD_c, optD_r, condK_t, condK_f, guS_t, guS_f, guardE, stepX, stepOp, callV, evX, Fr.put, Fr.lay, Fr.nm, layE, POp.slot, nextGen, mk_get, mk_set, mk_len, look, keepL, List.mem_cons, List.not_mem_nil, or_false, false_or, true_or, or_true, ↓reduceIte, hget_0, hset_0, getD_0, List.getElem?_cons_zero, List.getElem?_cons_succ, List.set_cons_zero, List.set_cons_succ, List.length_cons, List.length_nil, Option.bind_some, Option.bind_none, id_eq, Nat.reduceEqDiff, Nat.reduceLT, Nat.reduceLeDiff, Nat.reduceAdd, Nat.zero_add, Nat.add_zero, zero_ne_one', one_ne_zero', Nat.succ_ne_self, false_and, and_true, true_and, if_pos, if_neg, ite_self, Option.some.injEq, reduceCtorEq, binI, intOp, shiftOp, maxI, minI, foldO, List.map_cons, List.map_nil, List.nil_append, List.append_nil, List.cons_append, decide_eq_true, decide_eq_false, decide_true, decide_false, int_beq, int_bne, wrap64, Bool.not_true, Bool.not_false, beq_self_eq_true, beq_tf, beq_ft, endQ_ret, endQ_norm, resultsE, mapO, rvE, loadFrom, PV.cells, PV.fits, PV.good, PV.pure, PV.low, PV.lowL, List.head?_cons, List.drop_zero, List.drop_succ_cons, List.take_succ_cons, List.take_zero, splice, List.length_append, lenOf, elems, fillParts, fillElems, dropSl, freshSlot, headSz_nil, headSz_cons, cleanFor, Fl.full, Ob.gen, look_keep, List.isEmpty_cons, List.isEmpty_nil, Nat.sub_zero, Nat.reduceBEq, Int.natCast_add, Int.natCast_one, natbeq_self, Bool.true_or, Bool.false_or, Bool.or_true, Bool.or_false, Bool.true_and, Bool.and_true, Bool.and_self, Bool.or_self, optD_call, eqTop, eqShL, eqSh, eq_self, ← decide_not, not_true_eq_false, not_false_eq_true, Int.reduceAdd, Int.reduceSub, Int.reduceMul, Int.reduceNeg, Int.reduceTMod, Int.reduceTDiv, Int.reduceLT, Int.reduceLE, Int.reduceEq, Int.reduceToNat, Nat.reduceMul, Nat.reduceSub, List.drop_succ_cons, List.drop_nil, h1, h3, h4, h5, h6, hg, hj2, hmod, flds_len, hgl, Int.toNat_natCast, binS, str_beq])
            | with_reducible refine condK_bsplit (fun _ => ?_) (fun _ => ?_)
            | with_reducible refine optK_bsplit (fun _ => ?_) (fun _ => ?_)
            | with_reducible refine optD_bsplit (fun _ => ?_) (fun _ => ?_)
        refine ih (i + 1) _ _ (by omega) (by simp [look, look_keepL, h1]) (by simp [look, look_keepL, h3]) (by simp [look, look_keepL, h4]) (by simp [look, look_keepL, h5]) (by simp [look, look_keepL])
      · obtain ⟨f, hf, hj1, hj2⟩ := fld_get hj
        have hg := (gi_get (i := i) hj1).2.2 hij
        have hmod : (i : Int).tmod m.outs.length = j := tmod_nat (q := 2) (by omega) hj
        have hnm := hm.nm f hf
        refine loopK' (c := p7l0) rfl ?_
        repeat' first
            | with_reducible refine condK_split (fun _ => ?_) (fun _ => ?_)
            | with_reducible refine optK_gsplit (fun _ => ?_) (fun _ => ?_)
            | with_reducible refine optD_gsplit (fun _ => ?_) (fun _ => ?_)
            | ((with_reducible refine K_keep ?_ ?_); · rfl)
            | (simp -implicitDefEqProofs (disch := first | omega | assumption) only [K_nil, K_skip, K_seq, K_reg, K_regd, K_cond, K_block, K_loop, K_exit, K_ret, K_onil, K_ocons, K_inil, K_icons, K_bnorm, K_bret, K_bexit, K_cret, K_cexit, optK_some, optD_c, optD_r, condK_t, condK_f, guS_t, guS_f, guardE, stepX, stepOp, callV, evX, Fr.put, Fr.lay, Fr.nm, layE, POp.slot, nextGen, mk_get, mk_set, mk_len, look, keepL, List.mem_cons, List.not_mem_nil, or_false, false_or, true_or, or_true, ↓reduceIte, hget_0, hset_0, getD_0, List.getElem?_cons_zero, List.getElem?_cons_succ, List.set_cons_zero, List.set_cons_succ, List.length_cons, List.length_nil, Option.bind_some, Option.bind_none, id_eq, Nat.reduceEqDiff, Nat.reduceLT, Nat.reduceLeDiff, Nat.reduceAdd, Nat.zero_add, Nat.add_zero, zero_ne_one', one_ne_zero', Nat.succ_ne_self, false_and, and_true, true_and, if_pos, if_neg, ite_self, Option.some.injEq, reduceCtorEq, binI, intOp, shiftOp, maxI, minI, foldO, List.map_cons, List.map_nil, List.nil_append, List.append_nil, List.cons_append, decide_eq_true, decide_eq_false, decide_true, decide_false, int_beq, int_bne, wrap64, Bool.not_true, Bool.not_false, beq_self_eq_true, beq_tf, beq_ft, endQ_ret, endQ_norm, resultsE, mapO, rvE, loadFrom, PV.cells, PV.fits, PV.good, PV.pure, PV.low, PV.lowL, List.head?_cons, List.drop_zero, List.drop_succ_cons, List.take_succ_cons, List.take_zero, splice, List.length_append, lenOf, elems, fillParts, fillElems, dropSl, freshSlot, headSz_nil, headSz_cons, cleanFor, Fl.full, Ob.gen, look_keep, List.isEmpty_cons, List.isEmpty_nil, Nat.sub_zero, Nat.reduceBEq, Int.natCast_add, Int.natCast_one, natbeq_self, Bool.true_or, Bool.false_or, Bool.or_true, Bool.or_false, Bool.true_and, Bool.and_true, Bool.and_self, Bool.or_self, optD_call, eqTop, eqShL, eqSh, eq_self, ← decide_not, not_true_eq_false, not_false_eq_true, Int.reduceAdd, Int.reduceSub, Int.reduceMul, Int.reduceNeg, Int.reduceTMod, Int.reduceTDiv, Int.reduceLT, Int.reduceLE, Int.reduceEq, Int.reduceToNat, Nat.reduceMul, Nat.reduceSub, List.drop_succ_cons, List.drop_nil, h1, h3, h4, h5, h6, hg, hj2, hmod, flds_len, hgl, Int.toNat_natCast, binS, str_beq])
            | with_reducible refine condK_bsplit (fun _ => ?_) (fun _ => ?_)
            | with_reducible refine optK_bsplit (fun _ => ?_) (fun _ => ?_)
            | with_reducible refine optD_bsplit (fun _ => ?_) (fun _ => ?_)
        refine ih (i + 1) _ _ (by omega) (by simp [look, look_keepL, h1]) (by simp [look, look_keepL, h3]) (by simp [look, look_keepL, h4]) (by simp [look, look_keepL, h5]) (by simp [look, look_keepL])

theorem l7b (m : Mod) (hm : OutOk m) {f4 : Fl} {ks : List KI} {Q : PEx → Fr → Prop} (hn : ∀ t o, kQ E ks Q .norm { lvl := 0, tmps := mk 88 t, heap := [[o]], defers := [] }) :
    ∀ (k i : Nat) (o : Option Ob) (t : List (Nat × PV)), i + k = (m.outs.drop 1).length → look t 1 = .ip m.c → look t 4 = .vs f4 (flds (m.outs.drop 1)) → look t 9 = .int .i64 i →
      kQ E (.code p7l1 :: .blk 2 :: ks) Q .norm { lvl := 0, tmps := mk 88 t, heap := [[o]], defers := [] } := by
  have h2 := hm.len
  intro k
  have hd : (m.outs.drop 1).length = m.outs.length - 1 := by simp
  have hdl : (flds (m.outs.drop 1)).length = (m.outs.drop 1).length := flds_len
  induction k with
  | zero =>
    intro i o t hi h1 h4 h9
    refine loopK' (c := p7l1) rfl ?_
    repeat' first
        | with_reducible refine condK_split (fun _ => ?_) (fun _ => ?_)
        | with_reducible refine optK_gsplit (fun _ => ?_) (fun _ => ?_)
        | with_reducible refine optD_gsplit (fun _ => ?_) (fun _ => ?_)
        | ((with_reducible refine K_keep ?_ ?_); · rfl)
        | (simp -implicitDefEqProofs (disch := first | omega | assumption) only [K_nil, K_skip, K_seq, K_reg, K_regd, K_cond, K_block, K_loop, K_exit, K_ret, K_onil, K_ocons, K_inil, K_icons, K_bnorm, K_bret, K_bexit, K_cret, K_cexit, optK_some, optD_c, optD_r, condK_t, condK_f, guS_t, guS_f, guardE, stepX, stepOp, callV, evX, Fr.put, Fr.lay, Fr.nm, layE, POp.slot, nextGen, mk_get, mk_set, mk_len, look, keepL, List.mem_cons, List.not_mem_nil, or_false, false_or, true_or, or_true, ↓reduceIte, hget_0, hset_0, getD_0, List.getElem?_cons_zero, List.getElem?_cons_succ, List.set_cons_zero, List.set_cons_succ, List.length_cons, List.length_nil, Option.bind_some, Option.bind_none, id_eq, Nat.reduceEqDiff, Nat.reduceLT, Nat.reduceLeDiff, Nat.reduceAdd, Nat.zero_add, Nat.add_zero, zero_ne_one', one_ne_zero', Nat.succ_ne_self, false_and, and_true, true_and, if_pos, if_neg, ite_self, Option.some.injEq, reduceCtorEq, binI, intOp, shiftOp, maxI, minI, foldO, List.map_cons, List.map_nil, List.nil_append, List.append_nil, List.cons_append, decide_eq_true, decide_eq_false, decide_true, decide_false, int_beq, int_bne, wrap64, Bool.not_true, Bool.not_false, beq_self_eq_true, beq_tf, beq_ft, endQ_ret, endQ_norm, resultsE, mapO, rvE, loadFrom, PV.cells, PV.fits, PV.good, PV.pure, PV.low, PV.lowL, List.head?_cons, List.drop_zero, List.drop_succ_cons, List.take_succ_cons, List.take_zero, splice, List.length_append, lenOf, elems, fillParts, fillElems, dropSl, freshSlot, headSz_nil, headSz_cons, cleanFor, Fl.full, Ob.gen, look_keep, List.isEmpty_cons, List.isEmpty_nil, Nat.sub_zero, Nat.reduceBEq, Int.natCast_add, Int.natCast_one, natbeq_self, Bool.true_or, Bool.false_or, Bool.or_true, Bool.or_false, Bool.true_and, Bool.and_true, Bool.and_self, Bool.or_self, optD_call, eqTop, eqShL, eqSh, eq_self, ← decide_not, not_true_eq_false, not_false_eq_true, Int.reduceAdd, Int.reduceSub, Int.reduceMul, Int.reduceNeg, Int.reduceTMod, Int.reduceTDiv, Int.reduceLT, Int.reduceLE, Int.reduceEq, Int.reduceToNat, Nat.reduceMul, Nat.reduceSub, List.drop_succ_cons, List.drop_nil, h1, h4, h9, hdl])
        | with_reducible refine condK_bsplit (fun _ => ?_) (fun _ => ?_)
        | with_reducible refine optK_bsplit (fun _ => ?_) (fun _ => ?_)
        | with_reducible refine optD_bsplit (fun _ => ?_) (fun _ => ?_)
    exact hn _ _
  | succ k ih =>
    intro i o t hi h1 h4 h9
    obtain ⟨f, hf, hj1, hj2⟩ := fld_get (l := m.outs) (i := i + 1) (by omega)
    have hg : (flds (m.outs.drop 1))[i]? = some (.agg [.str f.name, .int .i64 f.ty.kind, .str f.ty.name]) := by
      rw [← flds_drop, List.getElem?_drop, Nat.add_comm]; exact hj2
    have hti : ((i : Int) + 1).toNat = i + 1 := by omega
    refine loopK' (c := p7l1) rfl ?_
    repeat' first
        | with_reducible refine condK_split (fun _ => ?_) (fun _ => ?_)
        | with_reducible refine optK_gsplit (fun _ => ?_) (fun _ => ?_)
        | with_reducible refine optD_gsplit (fun _ => ?_) (fun _ => ?_)
        | ((with_reducible refine K_keep ?_ ?_); · rfl)
        | (simp -implicitDefEqProofs (disch := first | omega | assumption) only [K_nil, K_skip, K_seq, K_reg, K_regd, K_cond, K_block, K_loop, K_exit, K_ret, K_onil, K_ocons, K_inil, K_icons, K_bnorm, K_bret, K_bexit, K_cret, K_cexit, optK_some, optD_c, optD_r, condK_t, condK_f, guS_t, guS_f, guardE, stepX, stepOp, callV, evX, Fr.put, Fr.lay, Fr.nm, layE, POp.slot, nextGen, mk_get, mk_set, mk_len, look, keepL, List.mem_cons, List.not_mem_nil, or_false, false_or, true_or, or_true, ↓reduceIte, hget_0, hset_0, getD_0, List.getElem?_cons_zero, List.getElem?_cons_succ, List.set_cons_zero, List.set_cons_succ, List.length_cons, List.length_nil, Option.bind_some, Option.bind_none, id_eq, Nat.reduceEqDiff, Nat.reduceLT, Nat.reduceLeDiff, Nat.reduceAdd, Nat.zero_add, Nat.add_zero, zero_ne_one', one_ne_zero', Nat.succ_ne_self, false_and, and_true, true_and, if_pos, if_neg, ite_self, Option.some.injEq, reduceCtorEq, binI, intOp, shiftOp, maxI, minI, foldO, List.map_cons, List.map_nil, List.nil_append, List.append_nil, List.cons_append, decide_eq_true, decide_eq_false, decide_true, decide_false, int_beq, int_bne, wrap64, Bool.not_true, Bool.not_false, beq_self_eq_true, beq_tf, beq_ft, endQ_ret, endQ_norm, resultsE, mapO, rvE, loadFrom, PV.cells, PV.fits, PV.good, PV.pure, PV.low, PV.lowL, List.head?_cons, List.drop_zero, List.drop_succ_cons, List.take_succ_cons, List.take_zero, splice, List.length_append, lenOf, elems, fillParts, fillElems, dropSl, freshSlot, headSz_nil, headSz_cons, cleanFor, Fl.full, Ob.gen, look_keep, List.isEmpty_cons, List.isEmpty_nil, Nat.sub_zero, Nat.reduceBEq, Int.natCast_add, Int.natCast_one, natbeq_self, Bool.true_or, Bool.false_or, Bool.or_true, Bool.or_false, Bool.true_and, Bool.and_true, Bool.and_self, Bool.or_self, optD_call, eqTop, eqShL, eqSh, eq_self, ← decide_not, not_true_eq_false, not_false_eq_true, Int.reduceAdd, Int.reduceSub, Int.reduceMul, Int.reduceNeg, Int.reduceTMod, Int.reduceTDiv, Int.reduceLT, Int.reduceLE, Int.reduceEq, Int.reduceToNat, Nat.reduceMul, Nat.reduceSub, List.drop_succ_cons, List.drop_nil, h1, h4, h9, hg, hj2, flds_len, hdl, hti, Int.toNat_natCast, str_beq])
        | with_reducible refine condK_bsplit (fun _ => ?_) (fun _ => ?_)
        | with_reducible refine optK_bsplit (fun _ => ?_) (fun _ => ?_)
        | with_reducible refine optD_bsplit (fun _ => ?_) (fun _ => ?_)
    refine ih (i + 1) _ _ (by omega) (by simp [look, look_keepL, h1]) (by simp [look, look_keepL, h4]) (by simp [look, look_keepL])

theorem law7 (m : Mod) (hm : OutOk m) (h : Heap) : doCall E (callR E) 7 [.agg m.c] h = some (.bool true, h) := by
  have h1 := m.hm
  have h2 := hm.len
  refine call_pure (pf := p7) rfl rfl rfl rfl (by simp [PV.lowL, PV.low, strs_low, flds_low, scts_low, funs_low, h1]) (by simp [PV.low, PV.lowL, strs_low, flds_low, scts_low, funs_low, h1]) ?_ h
  show kQ E _ (endQ [⟨2, none⟩] _) .norm { lvl := 0, tmps := mk 88 [(0, .agg m.c)], heap := [[none]], defers := [] }
  have pu17 : pureB E 17 = true := rfl
  have hgl : (flds (giF m)).length = 3 * m.outs.length := by rw [flds_len, giF_len]
  have hd : (flds (m.outs.drop 1)).length = m.outs.length - 1 := by rw [flds_len]; simp
  repeat' first
      | with_reducible refine condK_split (fun _ => ?_) (fun _ => ?_)
      | with_reducible refine optK_gsplit (fun _ => ?_) (fun _ => ?_)
      | with_reducible refine optD_gsplit (fun _ => ?_) (fun _ => ?_)
      | ((with_reducible refine K_keep ?_ ?_); · rfl)
      | (simp -implicitDefEqProofs (disch := first | omega | assumption) only [K_nil, K_skip, K_seq, K_reg, K_regd, K_cond, K_block, K_loop, K_exit, K_ret, K_onil, K_ocons, K_inil, K_icons, K_bnorm, K_bret, K_bexit, K_cret, K_cexit, optK_some, optD_c, optD_r, condK_t, condK_f, guS_t, guS_f, guardE, stepX, stepOp, callV, evX, Fr.put, Fr.lay, Fr.nm, layE, POp.slot, nextGen, mk_get, mk_set, mk_len, look, keepL, List.mem_cons, List.not_mem_nil, or_false, false_or, true_or, or_true, ↓reduceIte, hget_0, hset_0, getD_0, List.getElem?_cons_zero, List.getElem?_cons_succ, List.set_cons_zero, List.set_cons_succ, List.length_cons, List.length_nil, Option.bind_some, Option.bind_none, id_eq, Nat.reduceEqDiff, Nat.reduceLT, Nat.reduceLeDiff, Nat.reduceAdd, Nat.zero_add, Nat.add_zero, zero_ne_one', one_ne_zero', Nat.succ_ne_self, false_and, and_true, true_and, if_pos, if_neg, ite_self, Option.some.injEq, reduceCtorEq, binI, intOp, shiftOp, maxI, minI, foldO, List.map_cons, List.map_nil, List.nil_append, List.append_nil, List.cons_append, decide_eq_true, decide_eq_false, decide_true, decide_false, int_beq, int_bne, wrap64, Bool.not_true, Bool.not_false, beq_self_eq_true, beq_tf, beq_ft, endQ_ret, endQ_norm, resultsE, mapO, rvE, loadFrom, PV.cells, PV.fits, PV.good, PV.pure, PV.low, PV.lowL, List.head?_cons, List.drop_zero, List.drop_succ_cons, List.take_succ_cons, List.take_zero, splice, List.length_append, lenOf, elems, fillParts, fillElems, dropSl, freshSlot, headSz_nil, headSz_cons, cleanFor, Fl.full, Ob.gen, look_keep, List.isEmpty_cons, List.isEmpty_nil, Nat.sub_zero, Nat.reduceBEq, Int.natCast_add, Int.natCast_one, natbeq_self, Bool.true_or, Bool.false_or, Bool.or_true, Bool.or_false, Bool.true_and, Bool.and_true, Bool.and_self, Bool.or_self, optD_call, eqTop, eqShL, eqSh, eq_self, ← decide_not, not_true_eq_false, not_false_eq_true, Int.reduceAdd, Int.reduceSub, Int.reduceMul, Int.reduceNeg, Int.reduceTMod, Int.reduceTDiv, Int.reduceLT, Int.reduceLE, Int.reduceEq, Int.reduceToNat, Nat.reduceMul, Nat.reduceSub, List.drop_succ_cons, List.drop_nil, flds_len, hgl, hd, gi_ok, vary_ok, hm, strs_low, flds_low, scts_low, funs_low, h1])
      | with_reducible refine condK_bsplit (fun _ => ?_) (fun _ => ?_)
      | with_reducible refine optK_bsplit (fun _ => ?_) (fun _ => ?_)
      | with_reducible refine optD_bsplit (fun _ => ?_) (fun _ => ?_)
  refine l7a m hm (u4 := .vs (varyFl m) (flds (m.outs.drop 1))) ?_ (3 * m.outs.length) 0 _ _ (by omega) (by simp [look, look_keepL]) (by simp [look, look_keepL]) (by simp [look, look_keepL]) (by simp [look, look_keepL]) (by simp [look, look_keepL])
  intro t o h1' h4'
  repeat' first
      | with_reducible refine condK_split (fun _ => ?_) (fun _ => ?_)
      | with_reducible refine optK_gsplit (fun _ => ?_) (fun _ => ?_)
      | with_reducible refine optD_gsplit (fun _ => ?_) (fun _ => ?_)
      | ((with_reducible refine K_keep ?_ ?_); · rfl)
      | (simp -implicitDefEqProofs (disch := first | omega | assumption) only [K_nil, K_skip, K_seq, K_reg, K_regd, K_cond, K_block, K_loop, K_exit, K_ret, K_onil, K_ocons, K_inil, K_icons, K_bnorm, K_bret, K_bexit, K_cret, K_cexit, optK_some, optD_c, optD_r, condK_t, condK_f, guS_t, guS_f, guardE, stepX, stepOp, callV, evX, Fr.put, Fr.lay, Fr.nm, layE, POp.slot, nextGen, mk_get, mk_set, mk_len, look, keepL, List.mem_cons, List.not_mem_nil, or_false, false_or, true_or, or_true, ↓reduceIte, hget_0, hset_0, getD_0, List.getElem?_cons_zero, List.getElem?_cons_succ, List.set_cons_zero, List.set_cons_succ, List.length_cons, List.length_nil, Option.bind_some, Option.bind_none, id_eq, Nat.reduceEqDiff, Nat.reduceLT, Nat.reduceLeDiff, Nat.reduceAdd, Nat.zero_add, Nat.add_zero, zero_ne_one', one_ne_zero', Nat.succ_ne_self, false_and, and_true, true_and, if_pos, if_neg, ite_self, Option.some.injEq, reduceCtorEq, binI, intOp, shiftOp, maxI, minI, foldO, List.map_cons, List.map_nil, List.nil_append, List.append_nil, List.cons_append, decide_eq_true, decide_eq_false, decide_true, decide_false, int_beq, int_bne, wrap64, Bool.not_true, Bool.not_false, beq_self_eq_true, beq_tf, beq_ft, endQ_ret, endQ_norm, resultsE, mapO, rvE, loadFrom, PV.cells, PV.fits, PV.good, PV.pure, PV.low, PV.lowL, List.head?_cons, List.drop_zero, List.drop_succ_cons, List.take_succ_cons, List.take_zero, splice, List.length_append, lenOf, elems, fillParts, fillElems, dropSl, freshSlot, headSz_nil, headSz_cons, cleanFor, Fl.full, Ob.gen, look_keep, List.isEmpty_cons, List.isEmpty_nil, Nat.sub_zero, Nat.reduceBEq, Int.natCast_add, Int.natCast_one, natbeq_self, Bool.true_or, Bool.false_or, Bool.or_true, Bool.or_false, Bool.true_and, Bool.and_true, Bool.and_self, Bool.or_self, optD_call, eqTop, eqShL, eqSh, eq_self, ← decide_not, not_true_eq_false, not_false_eq_true, Int.reduceAdd, Int.reduceSub, Int.reduceMul, Int.reduceNeg, Int.reduceTMod, Int.reduceTDiv, Int.reduceLT, Int.reduceLE, Int.reduceEq, Int.reduceToNat, Nat.reduceMul, Nat.reduceSub, List.drop_succ_cons, List.drop_nil, h1', h4'])
      | with_reducible refine condK_bsplit (fun _ => ?_) (fun _ => ?_)
      | with_reducible refine optK_bsplit (fun _ => ?_) (fun _ => ?_)
      | with_reducible refine optD_bsplit (fun _ => ?_) (fun _ => ?_)
  refine l7b m hm (f4 := varyFl m) ?_ (m.outs.drop 1).length 0 _ _ (by omega) (by simp [look, look_keepL, h1']) (by simp [look, look_keepL, h4']) (by simp [look, look_keepL])
  intro t o
  repeat' first
      | with_reducible refine condK_split (fun _ => ?_) (fun _ => ?_)
      | with_reducible refine optK_gsplit (fun _ => ?_) (fun _ => ?_)
      | with_reducible refine optD_gsplit (fun _ => ?_) (fun _ => ?_)
      | ((with_reducible refine K_keep ?_ ?_); · rfl)
      | (simp -implicitDefEqProofs (disch := first | omega | assumption) only [K_nil, K_skip, K_seq, K_reg, K_regd, K_cond, K_block, K_loop, K_exit, K_ret, K_onil, K_ocons, K_inil, K_icons, K_bnorm, K_bret, K_bexit, K_cret, K_cexit, optK_some, optD_c, optD_r, condK_t, condK_f, guS_t, guS_f, guardE, stepX, stepOp, callV, evX, Fr.put, Fr.lay, Fr.nm, layE, POp.slot, nextGen, mk_get, mk_set, mk_len, look, keepL, List.mem_cons, List.not_mem_nil, or_false, false_or, true_or, or_true, ↓reduceIte, hget_0, hset_0, getD_0, List.getElem?_cons_zero, List.getElem?_cons_succ, List.set_cons_zero, List.set_cons_succ, List.length_cons, List.length_nil, Option.bind_some, Option.bind_none, id_eq, Nat.reduceEqDiff, Nat.reduceLT, Nat.reduceLeDiff, Nat.reduceAdd, Nat.zero_add, Nat.add_zero, zero_ne_one', one_ne_zero', Nat.succ_ne_self, false_and, and_true, true_and, if_pos, if_neg, ite_self, Option.some.injEq, reduceCtorEq, binI, intOp, shiftOp, maxI, minI, foldO, List.map_cons, List.map_nil, List.nil_append, List.append_nil, List.cons_append, decide_eq_true, decide_eq_false, decide_true, decide_false, int_beq, int_bne, wrap64, Bool.not_true, Bool.not_false, beq_self_eq_true, beq_tf, beq_ft, endQ_ret, endQ_norm, resultsE, mapO, rvE, loadFrom, PV.cells, PV.fits, PV.good, PV.pure, PV.low, PV.lowL, List.head?_cons, List.drop_zero, List.drop_succ_cons, List.take_succ_cons, List.take_zero, splice, List.length_append, lenOf, elems, fillParts, fillElems, dropSl, freshSlot, headSz_nil, headSz_cons, cleanFor, Fl.full, Ob.gen, look_keep, List.isEmpty_cons, List.isEmpty_nil, Nat.sub_zero, Nat.reduceBEq, Int.natCast_add, Int.natCast_one, natbeq_self, Bool.true_or, Bool.false_or, Bool.or_true, Bool.or_false, Bool.true_and, Bool.and_true, Bool.and_self, Bool.or_self, optD_call, eqTop, eqShL, eqSh, eq_self, ← decide_not, not_true_eq_false, not_false_eq_true, Int.reduceAdd, Int.reduceSub, Int.reduceMul, Int.reduceNeg, Int.reduceTMod, Int.reduceTDiv, Int.reduceLT, Int.reduceLE, Int.reduceEq, Int.reduceToNat, Nat.reduceMul, Nat.reduceSub, List.drop_succ_cons, List.drop_nil, ex_ok])
      | with_reducible refine condK_bsplit (fun _ => ?_) (fun _ => ?_)
      | with_reducible refine optK_bsplit (fun _ => ?_) (fun _ => ?_)
      | with_reducible refine optD_bsplit (fun _ => ?_) (fun _ => ?_)
end Go.VI.S
