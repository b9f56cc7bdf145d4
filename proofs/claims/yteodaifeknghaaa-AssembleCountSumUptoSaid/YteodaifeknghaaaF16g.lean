/- Chapter 16: the law AssembleCountSum, evaluated. -/
import Derived.Test.YteodaifeknghaaaF16f
set_option maxRecDepth 100000
set_option linter.unusedSimpArgs false
namespace Go.VI.S
open Go.VI

theorem tri_no (t : Int) (f : Fl) (zs : List Int) (hn : (zs.length : Int) ≤ 1048576) (h : Heap) :
    doCall E (callR E) 10 [.int .i64 t, .vs f (ints zs), .int .i64 (countF t zs.length)] h = some (.tuple [tri 0 0 0, .bool false], h) := by
  rw [tri_ok t _ f zs (by omega) h, triF_out (.inr (Int.le_refl _))]

theorem tAt_mid {A B : List T3} {p : T3} : tAt (A ++ p :: B) (A.length : Int) = p := by simp [tAt]

theorem cs_in {t : Int} {L : List (List Int)} {all : List T3} {k : Nat} {r : List Int} (hk : k < L.length) (hget : rAt L k = r) (hr : (r.length : Int) ≤ 1048576) (hall : all.length ≤ 1048576) {ks : List KI} {Q : PEx → Fr → Prop} {fin : Nat}
    {B : List T3} {s1 : Option Ob} (hs : ∀ (o : Option Ob) l, look l 5 = .int .i64 t → look l 6 = .vs .any (encT all) → look l 7 = .vs .any (encRs L) → look l 8 = .int .i64 fin → look l 9 = .int .i64 k → look l 10 = .int .i64 (countF t r.length) → kQ E ks Q .norm { lvl := 0, tmps := mk 105 l, heap := [[o, s1]], defers := [] }) :
    ∀ (m i : Nat) (A : List T3) (ob : Option Ob) (l : List (Nat × PV)), (i : Int) + m = countF t r.length → all = A ++ trisR t r i m ++ B → fin = A.length + m →
      look l 5 = .int .i64 t → look l 6 = .vs .any (encT all) → look l 7 = .vs .any (encRs L) → look l 8 = .int .i64 A.length → look l 9 = .int .i64 k → look l 10 = .int .i64 (countF t r.length) → look l 11 = .int .i64 i →
      kQ E (.code p6l1 :: .blk 2 :: ks) Q .norm { lvl := 0, tmps := mk 105 l, heap := [[ob, s1]], defers := [] } := by
  intro m
  induction m with
  | zero =>
    intro i A ob l hi ha hf h5 h6 h7 h8 h9 h10 h11
    refine loopK' (c := p6l1) rfl ?_
    repeat' first
        | with_reducible refine condK_split (fun _ => ?_) (fun _ => ?_)
        | with_reducible refine optK_gsplit (fun _ => ?_) (fun _ => ?_)
        | ((with_reducible refine K_keep ?_ ?_); · rfl)
        | (simp -implicitDefEqProofs (disch := first | omega | assumption) only [K_nil, K_skip, K_seq, K_reg, K_regd, K_cond, K_block, K_loop, K_exit, K_ret, K_onil, K_ocons, K_inil, K_icons, K_bnorm, K_bret, K_bexit, K_cret, K_cexit, optK_some, optD_c, optD_r, condK_t, condK_f, guS_t, guS_f, guardE, stepX, stepOp, callV, evX, Fr.put, Fr.lay, Fr.nm, layE, POp.slot, nextGen, mk_get, mk_set, mk_len, look, keepL, List.mem_cons, List.not_mem_nil, or_false, false_or, true_or, or_true, ↓reduceIte, hget_0, hset_0, getD_0, List.getElem?_cons_zero, List.getElem?_cons_succ, List.set_cons_zero, List.set_cons_succ, List.length_cons, List.length_nil, Option.bind_some, Option.bind_none, id_eq, Nat.reduceEqDiff, Nat.reduceLT, Nat.reduceLeDiff, Nat.reduceAdd, Nat.zero_add, Nat.add_zero, zero_ne_one', one_ne_zero', Nat.succ_ne_self, false_and, and_true, true_and, if_pos, if_neg, ite_self, Option.some.injEq, reduceCtorEq, binI, intOp, shiftOp, maxI, minI, foldO, List.map_cons, List.map_nil, List.nil_append, List.append_nil, List.cons_append, decide_eq_true, decide_eq_false, decide_true, decide_false, int_beq, int_bne, wrap64, Bool.not_true, Bool.not_false, beq_self_eq_true, beq_tf, beq_ft, endQ_ret, endQ_norm, resultsE, mapO, rvE, loadFrom, PV.cells, PV.fits, PV.good, PV.pure, PV.low, PV.lowL, List.head?_cons, List.drop_zero, List.drop_succ_cons, List.take_succ_cons, List.take_zero, splice, List.length_append, lenOf, elems, fillParts, fillElems, dropSl, freshSlot, headSz_nil, headSz_cons, cleanFor, Fl.full, Ob.gen, look_keep, List.isEmpty_cons, List.isEmpty_nil, Nat.sub_zero, Nat.reduceBEq, Int.natCast_add, Int.natCast_one, natbeq_self, Bool.true_or, Bool.false_or, Bool.or_true, Bool.or_false, Bool.true_and, Bool.and_true, Bool.and_self, Bool.or_self, optD_call, eqTop, eqShL, eqSh, eq_self, ← decide_not, not_true_eq_false, not_false_eq_true, Int.reduceAdd, Int.reduceSub, Int.reduceMul, Int.reduceNeg, Int.reduceTMod, Int.reduceTDiv, Int.reduceLT, Int.reduceLE, Int.reduceEq, Int.reduceToNat, Nat.reduceMul, Nat.reduceSub, List.drop_succ_cons, List.drop_nil, h5, h6, h7, h8, h9, h10, h11])
    have : fin = A.length := by omega
    subst this
    exact hs _ _ (by simp [look, look_keepL, h5]) (by simp [look, look_keepL, h6]) (by simp [look, look_keepL, h7]) (by simp [look, look_keepL, h8]) (by simp [look, look_keepL, h9]) (by simp [look, look_keepL, h10])
  | succ m ih =>
    intro i A ob l hi ha hf h5 h6 h7 h8 h9 h10 h11
    have hle := count_le t r.length
    have hlen : all.length = A.length + (m + 1) + B.length := by rw [ha]; simp [trisR_len]; omega
    have hat : tAt all A.length = triT t r i := by
      rw [ha]
      simp only [trisR, List.append_assoc, List.cons_append]
      exact tAt_mid
    refine loopK' (c := p6l1) rfl ?_
    repeat' first
        | with_reducible refine condK_split (fun _ => ?_) (fun _ => ?_)
        | with_reducible refine optK_gsplit (fun _ => ?_) (fun _ => ?_)
        | ((with_reducible refine K_keep ?_ ?_); · rfl)
        | (simp -implicitDefEqProofs (disch := first | omega | assumption) only [K_nil, K_skip, K_seq, K_reg, K_regd, K_cond, K_block, K_loop, K_exit, K_ret, K_onil, K_ocons, K_inil, K_icons, K_bnorm, K_bret, K_bexit, K_cret, K_cexit, optK_some, optD_c, optD_r, condK_t, condK_f, guS_t, guS_f, guardE, stepX, stepOp, callV, evX, Fr.put, Fr.lay, Fr.nm, layE, POp.slot, nextGen, mk_get, mk_set, mk_len, look, keepL, List.mem_cons, List.not_mem_nil, or_false, false_or, true_or, or_true, ↓reduceIte, hget_0, hset_0, getD_0, List.getElem?_cons_zero, List.getElem?_cons_succ, List.set_cons_zero, List.set_cons_succ, List.length_cons, List.length_nil, Option.bind_some, Option.bind_none, id_eq, Nat.reduceEqDiff, Nat.reduceLT, Nat.reduceLeDiff, Nat.reduceAdd, Nat.zero_add, Nat.add_zero, zero_ne_one', one_ne_zero', Nat.succ_ne_self, false_and, and_true, true_and, if_pos, if_neg, ite_self, Option.some.injEq, reduceCtorEq, binI, intOp, shiftOp, maxI, minI, foldO, List.map_cons, List.map_nil, List.nil_append, List.append_nil, List.cons_append, decide_eq_true, decide_eq_false, decide_true, decide_false, int_beq, int_bne, wrap64, Bool.not_true, Bool.not_false, beq_self_eq_true, beq_tf, beq_ft, endQ_ret, endQ_norm, resultsE, mapO, rvE, loadFrom, PV.cells, PV.fits, PV.good, PV.pure, PV.low, PV.lowL, List.head?_cons, List.drop_zero, List.drop_succ_cons, List.take_succ_cons, List.take_zero, splice, List.length_append, lenOf, elems, fillParts, fillElems, dropSl, freshSlot, headSz_nil, headSz_cons, cleanFor, Fl.full, Ob.gen, look_keep, List.isEmpty_cons, List.isEmpty_nil, Nat.sub_zero, Nat.reduceBEq, Int.natCast_add, Int.natCast_one, natbeq_self, Bool.true_or, Bool.false_or, Bool.or_true, Bool.or_false, Bool.true_and, Bool.and_true, Bool.and_self, Bool.or_self, optD_call, eqTop, eqShL, eqSh, eq_self, ← decide_not, not_true_eq_false, not_false_eq_true, Int.reduceAdd, Int.reduceSub, Int.reduceMul, Int.reduceNeg, Int.reduceTMod, Int.reduceTDiv, Int.reduceLT, Int.reduceLE, Int.reduceEq, Int.reduceToNat, Nat.reduceMul, Nat.reduceSub, List.drop_succ_cons, List.drop_nil, h5, h6, h7, h8, h9, h10, h11, encRs_len, encRs_get, hget, tri_ok', encT_len, encT_get, hat])
    exact ih (i + 1) (A ++ [triT t r i]) _ _ (by omega) (by rw [ha]; simp [trisR]) (by simp; omega) (by simp [look, look_keepL, h5]) (by simp [look, look_keepL, h6]) (by simp [look, look_keepL, h7]) (by simp [look]) (by simp [look, look_keepL, h9]) (by simp [look, look_keepL, h10]) (by simp [look])

theorem trisL_inval {t : Int} (ht : ¬ (1 ≤ t ∧ t ≤ 3)) : ∀ (L : List (List Int)), trisL t L = []
  | [] => rfl
  | r :: L => by
    have : countF t r.length = 0 := by unfold countF; rw [if_pos (.inr ht)]
    simp [trisL, this, trisR, trisL_inval ht L]

theorem cs_out {t : Int} {L : List (List Int)} {all : List T3} (hL : L.length ≤ 1048576) (hE : ∀ i : Nat, i < L.length → (rAt L i).length ≤ 1048576) (hall : all.length ≤ 1048576) {ks : List KI} {Q : PEx → Fr → Prop}
    (hpost : ∀ l o1 o2, look l 5 = .int .i64 t → look l 6 = .vs .any (encT all) → look l 8 = .int .i64 all.length → kQ E ks Q .norm { lvl := 0, tmps := mk 105 l, heap := [[o1, o2]], defers := [] }) :
    ∀ (rest pre : List (List Int)) (A : List T3) (o1 o2 : Option Ob) (l : List (Nat × PV)), L = pre ++ rest → all = A ++ trisL t rest →
      look l 5 = .int .i64 t → look l 6 = .vs .any (encT all) → look l 7 = .vs .any (encRs L) → look l 8 = .int .i64 A.length → look l 9 = .int .i64 pre.length →
      kQ E (.code p6l0 :: .blk 0 :: ks) Q .norm { lvl := 0, tmps := mk 105 l, heap := [[o1, o2]], defers := [] } := by
  intro rest
  induction rest with
  | nil =>
    intro pre A o1 o2 l hp ha h5 h6 h7 h8 h9
    have hlen : L.length = pre.length := by rw [hp]; simp
    have hA : A = all := by rw [ha]; simp [trisL]
    subst hA
    refine loopK' (c := p6l0) rfl ?_
    repeat' first
        | with_reducible refine condK_split (fun _ => ?_) (fun _ => ?_)
        | with_reducible refine optK_gsplit (fun _ => ?_) (fun _ => ?_)
        | ((with_reducible refine K_keep ?_ ?_); · rfl)
        | (simp -implicitDefEqProofs (disch := first | omega | assumption) only [K_nil, K_skip, K_seq, K_reg, K_regd, K_cond, K_block, K_loop, K_exit, K_ret, K_onil, K_ocons, K_inil, K_icons, K_bnorm, K_bret, K_bexit, K_cret, K_cexit, optK_some, optD_c, optD_r, condK_t, condK_f, guS_t, guS_f, guardE, stepX, stepOp, callV, evX, Fr.put, Fr.lay, Fr.nm, layE, POp.slot, nextGen, mk_get, mk_set, mk_len, look, keepL, List.mem_cons, List.not_mem_nil, or_false, false_or, true_or, or_true, ↓reduceIte, hget_0, hset_0, getD_0, List.getElem?_cons_zero, List.getElem?_cons_succ, List.set_cons_zero, List.set_cons_succ, List.length_cons, List.length_nil, Option.bind_some, Option.bind_none, id_eq, Nat.reduceEqDiff, Nat.reduceLT, Nat.reduceLeDiff, Nat.reduceAdd, Nat.zero_add, Nat.add_zero, zero_ne_one', one_ne_zero', Nat.succ_ne_self, false_and, and_true, true_and, if_pos, if_neg, ite_self, Option.some.injEq, reduceCtorEq, binI, intOp, shiftOp, maxI, minI, foldO, List.map_cons, List.map_nil, List.nil_append, List.append_nil, List.cons_append, decide_eq_true, decide_eq_false, decide_true, decide_false, int_beq, int_bne, wrap64, Bool.not_true, Bool.not_false, beq_self_eq_true, beq_tf, beq_ft, endQ_ret, endQ_norm, resultsE, mapO, rvE, loadFrom, PV.cells, PV.fits, PV.good, PV.pure, PV.low, PV.lowL, List.head?_cons, List.drop_zero, List.drop_succ_cons, List.take_succ_cons, List.take_zero, splice, List.length_append, lenOf, elems, fillParts, fillElems, dropSl, freshSlot, headSz_nil, headSz_cons, cleanFor, Fl.full, Ob.gen, look_keep, List.isEmpty_cons, List.isEmpty_nil, Nat.sub_zero, Nat.reduceBEq, Int.natCast_add, Int.natCast_one, natbeq_self, Bool.true_or, Bool.false_or, Bool.or_true, Bool.or_false, Bool.true_and, Bool.and_true, Bool.and_self, Bool.or_self, optD_call, eqTop, eqShL, eqSh, eq_self, ← decide_not, not_true_eq_false, not_false_eq_true, Int.reduceAdd, Int.reduceSub, Int.reduceMul, Int.reduceNeg, Int.reduceTMod, Int.reduceTDiv, Int.reduceLT, Int.reduceLE, Int.reduceEq, Int.reduceToNat, Nat.reduceMul, Nat.reduceSub, List.drop_succ_cons, List.drop_nil, h5, h6, h7, h8, h9, encRs_len])
    exact hpost _ _ _ (by simp [look, look_keepL, h5]) (by simp [look, look_keepL, h6]) (by simp [look, look_keepL, h8])
  | cons r rest ih =>
    intro pre A o1 o2 l hp ha h5 h6 h7 h8 h9
    have hlen : L.length = pre.length + rest.length + 1 := by rw [hp]; simp; omega
    have hget : rAt L pre.length = r := by rw [hp]; simp [rAt]
    have hr : r.length ≤ 1048576 := by have := hE pre.length (by omega); rwa [hget] at this
    have hle := count_le t r.length
    have hcn := countN (t := t) (n := r.length)
    refine loopK' (c := p6l0) rfl ?_
    repeat' first
        | with_reducible refine condK_split (fun _ => ?_) (fun _ => ?_)
        | with_reducible refine optK_gsplit (fun _ => ?_) (fun _ => ?_)
        | ((with_reducible refine K_keep ?_ ?_); · rfl)
        | (simp -implicitDefEqProofs (disch := first | omega | assumption) only [K_nil, K_skip, K_seq, K_reg, K_regd, K_cond, K_block, K_loop, K_exit, K_ret, K_onil, K_ocons, K_inil, K_icons, K_bnorm, K_bret, K_bexit, K_cret, K_cexit, optK_some, optD_c, optD_r, condK_t, condK_f, guS_t, guS_f, guardE, stepX, stepOp, callV, evX, Fr.put, Fr.lay, Fr.nm, layE, POp.slot, nextGen, mk_get, mk_set, mk_len, look, keepL, List.mem_cons, List.not_mem_nil, or_false, false_or, true_or, or_true, ↓reduceIte, hget_0, hset_0, getD_0, List.getElem?_cons_zero, List.getElem?_cons_succ, List.set_cons_zero, List.set_cons_succ, List.length_cons, List.length_nil, Option.bind_some, Option.bind_none, id_eq, Nat.reduceEqDiff, Nat.reduceLT, Nat.reduceLeDiff, Nat.reduceAdd, Nat.zero_add, Nat.add_zero, zero_ne_one', one_ne_zero', Nat.succ_ne_self, false_and, and_true, true_and, if_pos, if_neg, ite_self, Option.some.injEq, reduceCtorEq, binI, intOp, shiftOp, maxI, minI, foldO, List.map_cons, List.map_nil, List.nil_append, List.append_nil, List.cons_append, decide_eq_true, decide_eq_false, decide_true, decide_false, int_beq, int_bne, wrap64, Bool.not_true, Bool.not_false, beq_self_eq_true, beq_tf, beq_ft, endQ_ret, endQ_norm, resultsE, mapO, rvE, loadFrom, PV.cells, PV.fits, PV.good, PV.pure, PV.low, PV.lowL, List.head?_cons, List.drop_zero, List.drop_succ_cons, List.take_succ_cons, List.take_zero, splice, List.length_append, lenOf, elems, fillParts, fillElems, dropSl, freshSlot, headSz_nil, headSz_cons, cleanFor, Fl.full, Ob.gen, look_keep, List.isEmpty_cons, List.isEmpty_nil, Nat.sub_zero, Nat.reduceBEq, Int.natCast_add, Int.natCast_one, natbeq_self, Bool.true_or, Bool.false_or, Bool.or_true, Bool.or_false, Bool.true_and, Bool.and_true, Bool.and_self, Bool.or_self, optD_call, eqTop, eqShL, eqSh, eq_self, ← decide_not, not_true_eq_false, not_false_eq_true, Int.reduceAdd, Int.reduceSub, Int.reduceMul, Int.reduceNeg, Int.reduceTMod, Int.reduceTDiv, Int.reduceLT, Int.reduceLE, Int.reduceEq, Int.reduceToNat, Nat.reduceMul, Nat.reduceSub, List.drop_succ_cons, List.drop_nil, h5, h6, h7, h8, h9, encRs_len, encRs_get, hget, ints_len, count_ok])
    refine cs_in (t := t) (L := L) (all := all) (k := pre.length) (r := r) (by omega) hget (by omega) hall (fin := A.length + (countF t r.length).toNat) (B := trisL t rest) (s1 := o2) ?_ (countF t r.length).toNat 0 A _ _ (by simp [hcn]) (by rw [ha]; simp [trisL]) rfl
      (by simp [look, look_keepL, h5]) (by simp [look, look_keepL, h6]) (by simp [look, look_keepL, h7]) (by simp [look, look_keepL, h8]) (by simp [look, look_keepL, h9]) (by simp [look, look_keepL]) (by simp [look, look_keepL])
    intro o l' h5' h6' h7' h8' h9' h10'
    repeat' first
        | with_reducible refine condK_split (fun _ => ?_) (fun _ => ?_)
        | with_reducible refine optK_gsplit (fun _ => ?_) (fun _ => ?_)
        | ((with_reducible refine K_keep ?_ ?_); · rfl)
        | (simp -implicitDefEqProofs (disch := first | omega | assumption) only [K_nil, K_skip, K_seq, K_reg, K_regd, K_cond, K_block, K_loop, K_exit, K_ret, K_onil, K_ocons, K_inil, K_icons, K_bnorm, K_bret, K_bexit, K_cret, K_cexit, optK_some, optD_c, optD_r, condK_t, condK_f, guS_t, guS_f, guardE, stepX, stepOp, callV, evX, Fr.put, Fr.lay, Fr.nm, layE, POp.slot, nextGen, mk_get, mk_set, mk_len, look, keepL, List.mem_cons, List.not_mem_nil, or_false, false_or, true_or, or_true, ↓reduceIte, hget_0, hset_0, getD_0, List.getElem?_cons_zero, List.getElem?_cons_succ, List.set_cons_zero, List.set_cons_succ, List.length_cons, List.length_nil, Option.bind_some, Option.bind_none, id_eq, Nat.reduceEqDiff, Nat.reduceLT, Nat.reduceLeDiff, Nat.reduceAdd, Nat.zero_add, Nat.add_zero, zero_ne_one', one_ne_zero', Nat.succ_ne_self, false_and, and_true, true_and, if_pos, if_neg, ite_self, Option.some.injEq, reduceCtorEq, binI, intOp, shiftOp, maxI, minI, foldO, List.map_cons, List.map_nil, List.nil_append, List.append_nil, List.cons_append, decide_eq_true, decide_eq_false, decide_true, decide_false, int_beq, int_bne, wrap64, Bool.not_true, Bool.not_false, beq_self_eq_true, beq_tf, beq_ft, endQ_ret, endQ_norm, resultsE, mapO, rvE, loadFrom, PV.cells, PV.fits, PV.good, PV.pure, PV.low, PV.lowL, List.head?_cons, List.drop_zero, List.drop_succ_cons, List.take_succ_cons, List.take_zero, splice, List.length_append, lenOf, elems, fillParts, fillElems, dropSl, freshSlot, headSz_nil, headSz_cons, cleanFor, Fl.full, Ob.gen, look_keep, List.isEmpty_cons, List.isEmpty_nil, Nat.sub_zero, Nat.reduceBEq, Int.natCast_add, Int.natCast_one, natbeq_self, Bool.true_or, Bool.false_or, Bool.or_true, Bool.or_false, Bool.true_and, Bool.and_true, Bool.and_self, Bool.or_self, optD_call, eqTop, eqShL, eqSh, eq_self, ← decide_not, not_true_eq_false, not_false_eq_true, Int.reduceAdd, Int.reduceSub, Int.reduceMul, Int.reduceNeg, Int.reduceTMod, Int.reduceTDiv, Int.reduceLT, Int.reduceLE, Int.reduceEq, Int.reduceToNat, Nat.reduceMul, Nat.reduceSub, List.drop_succ_cons, List.drop_nil, h5', h6', h7', h8', h9', h10', encRs_len, encRs_get, hget, ints_len, tri_no])
    exact ih (pre ++ [r]) (A ++ trisR t r 0 (countF t r.length).toNat) _ _ _ (by simp [hp]) (by rw [ha]; simp [trisL]) (by simp [look, look_keepL, h5']) (by simp [look, look_keepL, h6']) (by simp [look, look_keepL, h7']) (by simp [look, look_keepL, h8', trisR_len]) (by simp [look])

theorem law6 (t : Int) (f : Fl) (zs : List Int) (hz : zs.length ≤ 1048576) (h : Heap) : doCall E (callR E) 6 [.int .i64 t, .vs f (ints zs)] h = some (.bool true, h) := by
  have h1 := runsF_len zs
  have h2 : ∀ i : Nat, i < (runsF zs).length → (rAt (runsF zs) i).length ≤ 1048576 := fun i hi => Nat.le_trans (runsF_each zs i hi) hz
  have h3 := sum_runs zs [] []
  simp [sumL] at h3
  have h4 := trisL_len t (runsF zs)
  have h5 : (trisF t zs).length ≤ 1048576 := by unfold trisF; unfold runsF at h4 ⊢; omega
  have h6 : (1 ≤ t ∧ t ≤ 3) ∨ (trisF t zs).length = 0 := by
    by_cases ht : 1 ≤ t ∧ t ≤ 3
    · exact .inl ht
    · exact .inr (by simp [trisF, trisL_inval ht])
  clear h3 h4
  refine call_pure (pf := p6) rfl rfl rfl rfl (by simp [PV.lowL, PV.low]) (by simp [PV.low, PV.lowL]) ?_ h
  show kQ E _ (endQ [⟨4, none⟩] _) .norm { lvl := 0, tmps := mk 105 [(0, .int .i64 t), (1, .vs f (ints zs))], heap := [[none, none]], defers := [] }
  repeat' first
      | with_reducible refine condK_split (fun _ => ?_) (fun _ => ?_)
      | with_reducible refine optK_gsplit (fun _ => ?_) (fun _ => ?_)
      | ((with_reducible refine K_keep ?_ ?_); · rfl)
      | (simp -implicitDefEqProofs (disch := first | omega | assumption) only [K_nil, K_skip, K_seq, K_reg, K_regd, K_cond, K_block, K_loop, K_exit, K_ret, K_onil, K_ocons, K_inil, K_icons, K_bnorm, K_bret, K_bexit, K_cret, K_cexit, optK_some, optD_c, optD_r, condK_t, condK_f, guS_t, guS_f, guardE, stepX, stepOp, callV, evX, Fr.put, Fr.lay, Fr.nm, layE, POp.slot, nextGen, mk_get, mk_set, mk_len, look, keepL, List.mem_cons, List.not_mem_nil, or_false, false_or, true_or, or_true, ↓reduceIte, hget_0, hset_0, getD_0, List.getElem?_cons_zero, List.getElem?_cons_succ, List.set_cons_zero, List.set_cons_succ, List.length_cons, List.length_nil, Option.bind_some, Option.bind_none, id_eq, Nat.reduceEqDiff, Nat.reduceLT, Nat.reduceLeDiff, Nat.reduceAdd, Nat.zero_add, Nat.add_zero, zero_ne_one', one_ne_zero', Nat.succ_ne_self, false_and, and_true, true_and, if_pos, if_neg, ite_self, Option.some.injEq, reduceCtorEq, binI, intOp, shiftOp, maxI, minI, foldO, List.map_cons, List.map_nil, List.nil_append, List.append_nil, List.cons_append, decide_eq_true, decide_eq_false, decide_true, decide_false, int_beq, int_bne, wrap64, Bool.not_true, Bool.not_false, beq_self_eq_true, beq_tf, beq_ft, endQ_ret, endQ_norm, resultsE, mapO, rvE, loadFrom, PV.cells, PV.fits, PV.good, PV.pure, PV.low, PV.lowL, List.head?_cons, List.drop_zero, List.drop_succ_cons, List.take_succ_cons, List.take_zero, splice, List.length_append, lenOf, elems, fillParts, fillElems, dropSl, freshSlot, headSz_nil, headSz_cons, cleanFor, Fl.full, Ob.gen, look_keep, List.isEmpty_cons, List.isEmpty_nil, Nat.sub_zero, Nat.reduceBEq, Int.natCast_add, Int.natCast_one, natbeq_self, Bool.true_or, Bool.false_or, Bool.or_true, Bool.or_false, Bool.true_and, Bool.and_true, Bool.and_self, Bool.or_self, optD_call, eqTop, eqShL, eqSh, eq_self, ← decide_not, not_true_eq_false, not_false_eq_true, Int.reduceAdd, Int.reduceSub, Int.reduceMul, Int.reduceNeg, Int.reduceTMod, Int.reduceTDiv, Int.reduceLT, Int.reduceLE, Int.reduceEq, Int.reduceToNat, Nat.reduceMul, Nat.reduceSub, List.drop_succ_cons, List.drop_nil, ints_len, runs_ok, tris_ok])
  refine cs_out (t := t) (L := runsF zs) (all := trisF t zs) (by omega) h2 h5 ?_ (runsF zs) [] [] none none _ rfl (by simp [trisF]) (by simp [look, look_keepL]) (by simp [look, look_keepL]) (by simp [look, look_keepL]) (by simp [look, look_keepL]) (by simp [look])
  intro l o1 o2 e5 e6 e8
  by_cases ht : 1 ≤ t ∧ t ≤ 3
  · have hv : validF t = true := by simp [validF, ht]
    repeat' first
        | with_reducible refine condK_split (fun _ => ?_) (fun _ => ?_)
        | with_reducible refine optK_gsplit (fun _ => ?_) (fun _ => ?_)
        | ((with_reducible refine K_keep ?_ ?_); · rfl)
        | (simp -implicitDefEqProofs (disch := first | omega | assumption) only [K_nil, K_skip, K_seq, K_reg, K_regd, K_cond, K_block, K_loop, K_exit, K_ret, K_onil, K_ocons, K_inil, K_icons, K_bnorm, K_bret, K_bexit, K_cret, K_cexit, optK_some, optD_c, optD_r, condK_t, condK_f, guS_t, guS_f, guardE, stepX, stepOp, callV, evX, Fr.put, Fr.lay, Fr.nm, layE, POp.slot, nextGen, mk_get, mk_set, mk_len, look, keepL, List.mem_cons, List.not_mem_nil, or_false, false_or, true_or, or_true, ↓reduceIte, hget_0, hset_0, getD_0, List.getElem?_cons_zero, List.getElem?_cons_succ, List.set_cons_zero, List.set_cons_succ, List.length_cons, List.length_nil, Option.bind_some, Option.bind_none, id_eq, Nat.reduceEqDiff, Nat.reduceLT, Nat.reduceLeDiff, Nat.reduceAdd, Nat.zero_add, Nat.add_zero, zero_ne_one', one_ne_zero', Nat.succ_ne_self, false_and, and_true, true_and, if_pos, if_neg, ite_self, Option.some.injEq, reduceCtorEq, binI, intOp, shiftOp, maxI, minI, foldO, List.map_cons, List.map_nil, List.nil_append, List.append_nil, List.cons_append, decide_eq_true, decide_eq_false, decide_true, decide_false, int_beq, int_bne, wrap64, Bool.not_true, Bool.not_false, beq_self_eq_true, beq_tf, beq_ft, endQ_ret, endQ_norm, resultsE, mapO, rvE, loadFrom, PV.cells, PV.fits, PV.good, PV.pure, PV.low, PV.lowL, List.head?_cons, List.drop_zero, List.drop_succ_cons, List.take_succ_cons, List.take_zero, splice, List.length_append, lenOf, elems, fillParts, fillElems, dropSl, freshSlot, headSz_nil, headSz_cons, cleanFor, Fl.full, Ob.gen, look_keep, List.isEmpty_cons, List.isEmpty_nil, Nat.sub_zero, Nat.reduceBEq, Int.natCast_add, Int.natCast_one, natbeq_self, Bool.true_or, Bool.false_or, Bool.or_true, Bool.or_false, Bool.true_and, Bool.and_true, Bool.and_self, Bool.or_self, optD_call, eqTop, eqShL, eqSh, eq_self, ← decide_not, not_true_eq_false, not_false_eq_true, Int.reduceAdd, Int.reduceSub, Int.reduceMul, Int.reduceNeg, Int.reduceTMod, Int.reduceTDiv, Int.reduceLT, Int.reduceLE, Int.reduceEq, Int.reduceToNat, Nat.reduceMul, Nat.reduceSub, List.drop_succ_cons, List.drop_nil, e5, e6, e8, encT_len, valid_ok, hv, ex_ok])
  · have hv : validF t = false := by simp [validF, ht]
    have h7 := h6.resolve_left ht
    clear h6
    repeat' first
        | with_reducible refine condK_split (fun _ => ?_) (fun _ => ?_)
        | with_reducible refine optK_gsplit (fun _ => ?_) (fun _ => ?_)
        | ((with_reducible refine K_keep ?_ ?_); · rfl)
        | (simp -implicitDefEqProofs (disch := first | omega | assumption) only [K_nil, K_skip, K_seq, K_reg, K_regd, K_cond, K_block, K_loop, K_exit, K_ret, K_onil, K_ocons, K_inil, K_icons, K_bnorm, K_bret, K_bexit, K_cret, K_cexit, optK_some, optD_c, optD_r, condK_t, condK_f, guS_t, guS_f, guardE, stepX, stepOp, callV, evX, Fr.put, Fr.lay, Fr.nm, layE, POp.slot, nextGen, mk_get, mk_set, mk_len, look, keepL, List.mem_cons, List.not_mem_nil, or_false, false_or, true_or, or_true, ↓reduceIte, hget_0, hset_0, getD_0, List.getElem?_cons_zero, List.getElem?_cons_succ, List.set_cons_zero, List.set_cons_succ, List.length_cons, List.length_nil, Option.bind_some, Option.bind_none, id_eq, Nat.reduceEqDiff, Nat.reduceLT, Nat.reduceLeDiff, Nat.reduceAdd, Nat.zero_add, Nat.add_zero, zero_ne_one', one_ne_zero', Nat.succ_ne_self, false_and, and_true, true_and, if_pos, if_neg, ite_self, Option.some.injEq, reduceCtorEq, binI, intOp, shiftOp, maxI, minI, foldO, List.map_cons, List.map_nil, List.nil_append, List.append_nil, List.cons_append, decide_eq_true, decide_eq_false, decide_true, decide_false, int_beq, int_bne, wrap64, Bool.not_true, Bool.not_false, beq_self_eq_true, beq_tf, beq_ft, endQ_ret, endQ_norm, resultsE, mapO, rvE, loadFrom, PV.cells, PV.fits, PV.good, PV.pure, PV.low, PV.lowL, List.head?_cons, List.drop_zero, List.drop_succ_cons, List.take_succ_cons, List.take_zero, splice, List.length_append, lenOf, elems, fillParts, fillElems, dropSl, freshSlot, headSz_nil, headSz_cons, cleanFor, Fl.full, Ob.gen, look_keep, List.isEmpty_cons, List.isEmpty_nil, Nat.sub_zero, Nat.reduceBEq, Int.natCast_add, Int.natCast_one, natbeq_self, Bool.true_or, Bool.false_or, Bool.or_true, Bool.or_false, Bool.true_and, Bool.and_true, Bool.and_self, Bool.or_self, optD_call, eqTop, eqShL, eqSh, eq_self, ← decide_not, not_true_eq_false, not_false_eq_true, Int.reduceAdd, Int.reduceSub, Int.reduceMul, Int.reduceNeg, Int.reduceTMod, Int.reduceTDiv, Int.reduceLT, Int.reduceLE, Int.reduceEq, Int.reduceToNat, Nat.reduceMul, Nat.reduceSub, List.drop_succ_cons, List.drop_nil, e5, e6, e8, encT_len, valid_ok, hv, ex_ok])
end Go.VI.S
