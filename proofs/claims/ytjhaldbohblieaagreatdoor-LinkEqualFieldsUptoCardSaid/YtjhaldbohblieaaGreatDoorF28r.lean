/- Chapter 28: where two lists of fields without structs differ. -/
import Derived.Test.YtjhaldbohblieaaGreatDoorF28p
set_option maxRecDepth 100000
set_option linter.unusedSimpArgs false
set_option linter.unusedVariables false
set_option pp.deepTerms.threshold 4
set_option pp.deepTerms false
namespace Go.VI.S
open Go.VI
theorem ty_eq {a b : Int} {s t : Str} : eqTop (.parts [(0, 1, .ei), (1, 1, .es)]) (.agg [.int .i64 a, .str s]) (.agg [.int .i64 b, .str t]) = some (decide ((⟨a, s⟩ : Ty) = ⟨b, t⟩)) := by
  have e1 : (a == b) = decide (a = b) := int_beq
  have e2 : (s == t) = decide (s = t) := str_beq
  by_cases h1 : a = b
  · by_cases h2 : s = t
    · simp [eqTop, eqShL, eqSh, h1, h2]
    · simp [eqTop, eqShL, eqSh, e2, h1, h2]
  · simp [eqTop, eqShL, eqSh, e1, h1]
theorem ty_eta {t : Ty} : (⟨t.kind, t.name⟩ : Ty) = t := rfl
theorem same_ok (m n : Mod) (t u : Ty) (d : Int) (ht : t.kind ≠ 8) (h : Heap) : doCall E (callR E) 48 [.agg m.c, .agg n.c, .agg [.int .i64 t.kind, .str t.name], .agg [.int .i64 u.kind, .str u.name], .int .i64 d] h = some (.bool (decide (t = u)), h) := by
  have h1 := m.hm
  have h2 := n.hm
  refine call_pure (pf := p48) rfl rfl rfl rfl (by simp [PV.lowL, PV.low, strs_low, flds_low, scts_low, funs_low, h1, h2]) (by simp [PV.low, PV.lowL, strs_low, flds_low, scts_low, funs_low, h1, h2]) ?_ h
  show kQ E _ (endQ [⟨10, none⟩] _) .norm { lvl := 0, tmps := mk 58 [(0, .agg m.c), (1, .agg n.c), (2, .agg [.int .i64 t.kind, .str t.name]), (3, .agg [.int .i64 u.kind, .str u.name]), (4, .int .i64 d)], heap := [[]], defers := [] }
  have pu46 : pureB E 46 = true := rfl
  repeat' first
      | with_reducible refine condK_split (fun _ => ?_) (fun _ => ?_)
      | with_reducible refine optK_gsplit (fun _ => ?_) (fun _ => ?_)
      | with_reducible refine optD_gsplit (fun _ => ?_) (fun _ => ?_)
      | ((with_reducible refine K_keep ?_ ?_); · rfl)
      | (simp -implicitDefEqProofs (disch := first | omega | assumption) only [K_nil, K_skip, K_seq, K_reg, K_regd, K_cond, K_block, K_loop, K_exit, K_ret, K_onil, K_ocons, K_inil, K_icons, K_bnorm, K_bret, K_bexit, K_cret, K_cexit, optK_some, optD_c, optD_r, condK_t, condK_f, guS_t, guS_f, guardE, stepX, stepOp, callV, evX, Fr.put, Fr.lay, Fr.nm, layE, POp.slot, nextGen, mk_get, mk_set, mk_len, look, keepL, List.mem_cons, List.not_mem_nil, or_false, false_or, true_or, or_true, ↓reduceIte, hget_0, hset_0, getD_0, List.getElem?_cons_zero, List.getElem?_cons_succ, List.set_cons_zero, List.set_cons_succ, List.length_cons, List.length_nil, Option.bind_some, Option.bind_none, id_eq, Nat.reduceEqDiff, Nat.reduceLT, Nat.reduceLeDiff, Nat.reduceAdd, Nat.zero_add, Nat.add_zero, zero_ne_one', one_ne_zero', Nat.succ_ne_self, false_and, and_true, true_and, if_pos, if_neg, ite_self, Option.some.injEq, reduceCtorEq, binI, intOp, shiftOp, maxI, minI, foldO, List.map_cons, List.map_nil, List.nil_append, List.append_nil, List.cons_append, decide_eq_true, decide_eq_false, decide_true, decide_false, int_beq, int_bne, wrap64, Bool.not_true, Bool.not_false, beq_self_eq_true, beq_tf, beq_ft, endQ_ret, endQ_norm, resultsE, mapO, rvE, loadFrom, PV.cells, PV.fits, PV.good, PV.pure, PV.low, PV.lowL, List.head?_cons, List.drop_zero, List.drop_succ_cons, List.take_succ_cons, List.take_zero, splice, List.length_append, lenOf, elems, fillParts, fillElems, dropSl, freshSlot, headSz_nil, headSz_cons, cleanFor, Fl.full, Ob.gen, look_keep, List.isEmpty_cons, List.isEmpty_nil, Nat.sub_zero, Nat.reduceBEq, Int.natCast_add, Int.natCast_one, natbeq_self, Bool.true_or, Bool.false_or, Bool.or_true, Bool.or_false, Bool.true_and, Bool.and_true, Bool.and_self, Bool.or_self, optD_call, eq_self, ← decide_not, not_true_eq_false, not_false_eq_true, Int.reduceAdd, Int.reduceSub, Int.reduceMul, Int.reduceNeg, Int.reduceTMod, Int.reduceTDiv, Int.reduceLT, Int.reduceLE, Int.reduceEq, Int.reduceToNat, Nat.reduceMul, Nat.reduceSub, List.drop_succ_cons, List.drop_nil, ty_eq, ty_eta, ht])
      | with_reducible refine condK_bsplit (fun _ => ?_) (fun _ => ?_)
      | with_reducible refine optK_bsplit (fun _ => ?_) (fun _ => ?_)
      | with_reducible refine optD_bsplit (fun _ => ?_) (fun _ => ?_)
  all_goals simp_all

def difG : List Fld → List Fld → Int → Int
  | f :: r, g :: s, i => if f.name = g.name ∧ f.ty = g.ty then difG r s (i + 1) else i
  | [], [], _ => -1
  | _, _, i => i
def difF (a b : List Fld) : Int := difG a b 0

theorem dif_loop (m n : Mod) (a b : List Fld) {fa fb : Fl} (d : Int) (ha : a.length ≤ 1048577) (hb : b.length ≤ 1048577) (hk : ∀ f ∈ a, f.ty.kind ≠ 8) (fin mn : Int) (hmn : mn = if (b.length : Int) < (a.length : Int) then (b.length : Int) else (a.length : Int)) {ks : List KI} {Q : PEx → Fr → Prop}
    (hr : ∀ t, look t 10 = .int .i64 fin → kQ E ks Q .ret { lvl := 0, tmps := mk 60 t, heap := [[]], defers := [] })
    (hn : ∀ t, fin = (if a.length = b.length then -1 else mn) → look t 2 = .vs fa (flds a) → look t 3 = .vs fb (flds b) → kQ E ks Q .norm { lvl := 0, tmps := mk 60 t, heap := [[]], defers := [] }) :
    ∀ (ra pa rb pb : List Fld) (t : List (Nat × PV)), a = pa ++ ra → b = pb ++ rb → pa.length = pb.length → difG ra rb pa.length = fin →
      look t 2 = .vs fa (flds a) → look t 3 = .vs fb (flds b) → look t 4 = .int .i64 d → look t 5 = .ip m.c → look t 6 = .ip n.c → look t 16 = .int .i64 mn → look t 17 = .int .i64 pa.length →
      kQ E (.code p31l0 :: .blk 0 :: ks) Q .norm { lvl := 0, tmps := mk 60 t, heap := [[]], defers := [] } := by
  intro ra
  have pu48 : pureB E 48 = true := rfl
  have stop : ∀ (ra pa rb pb : List Fld) (t : List (Nat × PV)), ra = [] ∨ rb = [] → a = pa ++ ra → b = pb ++ rb → pa.length = pb.length → difG ra rb pa.length = fin →
      look t 2 = .vs fa (flds a) → look t 3 = .vs fb (flds b) → look t 4 = .int .i64 d → look t 5 = .ip m.c → look t 6 = .ip n.c → look t 16 = .int .i64 mn → look t 17 = .int .i64 pa.length →
      kQ E (.code p31l0 :: .blk 0 :: ks) Q .norm { lvl := 0, tmps := mk 60 t, heap := [[]], defers := [] } := by
    intro ra pa rb pb t hz h1 h2 hp hf k2 k3 k4 k5 k6 k16 k17
    have e1 : a.length = pa.length + ra.length := by rw [h1]; simp
    have e2 : b.length = pb.length + rb.length := by rw [h2]; simp
    have hm2 : mn = pa.length := by
      rcases hz with hz | hz <;> subst hz <;> simp at e1 e2 <;> rw [hmn] <;> split <;> omega
    refine loopK' (c := p31l0) rfl ?_
    repeat' first
        | with_reducible refine condK_split (fun _ => ?_) (fun _ => ?_)
        | with_reducible refine optK_gsplit (fun _ => ?_) (fun _ => ?_)
        | with_reducible refine optD_gsplit (fun _ => ?_) (fun _ => ?_)
        | ((with_reducible refine K_keep ?_ ?_); · rfl)
        | (simp -implicitDefEqProofs (disch := first | omega | assumption) only [K_nil, K_skip, K_seq, K_reg, K_regd, K_cond, K_block, K_loop, K_exit, K_ret, K_onil, K_ocons, K_inil, K_icons, K_bnorm, K_bret, K_bexit, K_cret, K_cexit, optK_some, optD_c, optD_r, condK_t, condK_f, guS_t, guS_f, guardE, stepX, stepOp, callV, evX, Fr.put, Fr.lay, Fr.nm, layE, POp.slot, nextGen, mk_get, mk_set, mk_len, look, keepL, List.mem_cons, List.not_mem_nil, or_false, false_or, true_or, or_true, ↓reduceIte, hget_0, hset_0, getD_0, List.getElem?_cons_zero, List.getElem?_cons_succ, List.set_cons_zero, List.set_cons_succ, List.length_cons, List.length_nil, Option.bind_some, Option.bind_none, id_eq, Nat.reduceEqDiff, Nat.reduceLT, Nat.reduceLeDiff, Nat.reduceAdd, Nat.zero_add, Nat.add_zero, zero_ne_one', one_ne_zero', Nat.succ_ne_self, false_and, and_true, true_and, if_pos, if_neg, ite_self, Option.some.injEq, reduceCtorEq, binI, intOp, shiftOp, maxI, minI, foldO, List.map_cons, List.map_nil, List.nil_append, List.append_nil, List.cons_append, decide_eq_true, decide_eq_false, decide_true, decide_false, int_beq, int_bne, wrap64, Bool.not_true, Bool.not_false, beq_self_eq_true, beq_tf, beq_ft, endQ_ret, endQ_norm, resultsE, mapO, rvE, loadFrom, PV.cells, PV.fits, PV.good, PV.pure, PV.low, PV.lowL, List.head?_cons, List.drop_zero, List.drop_succ_cons, List.take_succ_cons, List.take_zero, splice, List.length_append, lenOf, elems, fillParts, fillElems, dropSl, freshSlot, headSz_nil, headSz_cons, cleanFor, Fl.full, Ob.gen, look_keep, List.isEmpty_cons, List.isEmpty_nil, Nat.sub_zero, Nat.reduceBEq, Int.natCast_add, Int.natCast_one, natbeq_self, Bool.true_or, Bool.false_or, Bool.or_true, Bool.or_false, Bool.true_and, Bool.and_true, Bool.and_self, Bool.or_self, optD_call, eqTop, eqShL, eqSh, eq_self, ← decide_not, not_true_eq_false, not_false_eq_true, Int.reduceAdd, Int.reduceSub, Int.reduceMul, Int.reduceNeg, Int.reduceTMod, Int.reduceTDiv, Int.reduceLT, Int.reduceLE, Int.reduceEq, Int.reduceToNat, Nat.reduceMul, Nat.reduceSub, List.drop_succ_cons, List.drop_nil, k2, k3, k4, k5, k6, k16, k17, hm2])
        | with_reducible refine condK_bsplit (fun _ => ?_) (fun _ => ?_)
        | with_reducible refine optK_bsplit (fun _ => ?_) (fun _ => ?_)
        | with_reducible refine optD_bsplit (fun _ => ?_) (fun _ => ?_)
    refine hn _ ?_ (by simp [look, look_keepL, k2]) (by simp [look, look_keepL, k3])
    rw [← hf, hm2]
    cases ra with
    | nil => cases rb with
      | nil => rw [if_pos (by simp at e1 e2; omega)]; rfl
      | cons y s => rw [if_neg (by simp at e1 e2; omega)]; rfl
    | cons x r => cases rb with
      | nil => rw [if_neg (by simp at e1 e2; omega)]; rfl
      | cons y s => simp at hz
  induction ra with
  | nil => intro pa rb pb t; exact stop [] pa rb pb t (.inl rfl)
  | cons x r ih =>
    intro pa rb pb t h1 h2 hp hf k2 k3 k4 k5 k6 k16 k17
    cases rb with
    | nil => exact stop (x :: r) pa [] pb t (.inr rfl) h1 h2 hp hf k2 k3 k4 k5 k6 k16 k17
    | cons y s =>
      have e1 : a.length = pa.length + r.length + 1 := by rw [h1]; simp; omega
      have e2 : b.length = pb.length + s.length + 1 := by rw [h2]; simp; omega
      have hlt : (pa.length : Int) < mn := by rw [hmn]; split <;> omega
      have g1 : (flds a)[pa.length]? = some (.agg [.str x.name, .int .i64 x.ty.kind, .str x.ty.name]) := by rw [h1]; exact get_at _ _ _ _
      have g2 : (flds b)[pa.length]? = some (.agg [.str y.name, .int .i64 y.ty.kind, .str y.ty.name]) := by rw [h2, hp]; exact get_at _ _ _ _
      have hx : x.ty.kind ≠ 8 := hk x (by rw [h1]; simp)
      have hm := m.hm
      have hm' := n.hm
      refine loopK' (c := p31l0) rfl ?_
      by_cases hnm : x.name = y.name
      · have pn := eq_true hnm
        by_cases hty : x.ty = y.ty
        · have pt := eq_true hty
          repeat' first
              | with_reducible refine condK_split (fun _ => ?_) (fun _ => ?_)
              | with_reducible refine optK_gsplit (fun _ => ?_) (fun _ => ?_)
              | with_reducible refine optD_gsplit (fun _ => ?_) (fun _ => ?_)
              | ((with_reducible refine K_keep ?_ ?_); · rfl)
              | (simp -implicitDefEqProofs (disch := first | omega | assumption) only [K_nil, K_skip, K_seq, K_reg, K_regd, K_cond, K_block, K_loop, K_exit, K_ret, K_onil, K_ocons, K_inil, K_icons, K_bnorm, K_bret, K_bexit, K_cret, K_cexit, optK_some, optD_c, optD_r, condK_t, condK_f, guS_t, guS_f, guardE, stepX, stepOp, callV, evX, Fr.put, Fr.lay, Fr.nm, layE, POp.slot, nextGen, mk_get, mk_set, mk_len, look, keepL, List.mem_cons, List.not_mem_nil, or_false, false_or, true_or, or_true, ↓reduceIte, hget_0, hset_0, getD_0, List.getElem?_cons_zero, List.getElem?_cons_succ, List.set_cons_zero, List.set_cons_succ, List.length_cons, List.length_nil, Option.bind_some, Option.bind_none, id_eq, Nat.reduceEqDiff, Nat.reduceLT, Nat.reduceLeDiff, Nat.reduceAdd, Nat.zero_add, Nat.add_zero, zero_ne_one', one_ne_zero', Nat.succ_ne_self, false_and, and_true, true_and, if_pos, if_neg, ite_self, Option.some.injEq, reduceCtorEq, binI, intOp, shiftOp, maxI, minI, foldO, List.map_cons, List.map_nil, List.nil_append, List.append_nil, List.cons_append, decide_eq_true, decide_eq_false, decide_true, decide_false, int_beq, int_bne, wrap64, Bool.not_true, Bool.not_false, beq_self_eq_true, beq_tf, beq_ft, endQ_ret, endQ_norm, resultsE, mapO, rvE, loadFrom, PV.cells, PV.fits, PV.good, PV.pure, PV.low, PV.lowL, List.head?_cons, List.drop_zero, List.drop_succ_cons, List.take_succ_cons, List.take_zero, splice, List.length_append, lenOf, elems, fillParts, fillElems, dropSl, freshSlot, headSz_nil, headSz_cons, cleanFor, Fl.full, Ob.gen, look_keep, List.isEmpty_cons, List.isEmpty_nil, Nat.sub_zero, Nat.reduceBEq, Int.natCast_add, Int.natCast_one, natbeq_self, Bool.true_or, Bool.false_or, Bool.or_true, Bool.or_false, Bool.true_and, Bool.and_true, Bool.and_self, Bool.or_self, optD_call, eqTop, eqShL, eqSh, eq_self, ← decide_not, not_true_eq_false, not_false_eq_true, Int.reduceAdd, Int.reduceSub, Int.reduceMul, Int.reduceNeg, Int.reduceTMod, Int.reduceTDiv, Int.reduceLT, Int.reduceLE, Int.reduceEq, Int.reduceToNat, Nat.reduceMul, Nat.reduceSub, List.drop_succ_cons, List.drop_nil, k2, k3, k4, k5, k6, k16, k17, g1, g2, flds_len, Int.toNat_natCast, binS, str_beq, same_ok, hx, strs_low, flds_low, scts_low, funs_low, hm, hm', pn, pt])
              | with_reducible refine condK_bsplit (fun _ => ?_) (fun _ => ?_)
              | with_reducible refine optK_bsplit (fun _ => ?_) (fun _ => ?_)
              | with_reducible refine optD_bsplit (fun _ => ?_) (fun _ => ?_)
          refine ih (pa ++ [x]) s (pb ++ [y]) _ (by simp [h1]) (by simp [h2]) (by simp [hp]) (by rw [← hf]; simp [difG, hnm, hty]) (by simp [look, look_keepL, k2]) (by simp [look, look_keepL, k3]) (by simp [look, look_keepL, k4]) (by simp [look, look_keepL, k5]) (by simp [look, look_keepL, k6]) (by simp [look, look_keepL, k16]) (by simp [look, look_keepL])
        · have pt := eq_false hty
          repeat' first
              | with_reducible refine condK_split (fun _ => ?_) (fun _ => ?_)
              | with_reducible refine optK_gsplit (fun _ => ?_) (fun _ => ?_)
              | with_reducible refine optD_gsplit (fun _ => ?_) (fun _ => ?_)
              | ((with_reducible refine K_keep ?_ ?_); · rfl)
              | (simp -implicitDefEqProofs (disch := first | omega | assumption) only [K_nil, K_skip, K_seq, K_reg, K_regd, K_cond, K_block, K_loop, K_exit, K_ret, K_onil, K_ocons, K_inil, K_icons, K_bnorm, K_bret, K_bexit, K_cret, K_cexit, optK_some, optD_c, optD_r, condK_t, condK_f, guS_t, guS_f, guardE, stepX, stepOp, callV, evX, Fr.put, Fr.lay, Fr.nm, layE, POp.slot, nextGen, mk_get, mk_set, mk_len, look, keepL, List.mem_cons, List.not_mem_nil, or_false, false_or, true_or, or_true, ↓reduceIte, hget_0, hset_0, getD_0, List.getElem?_cons_zero, List.getElem?_cons_succ, List.set_cons_zero, List.set_cons_succ, List.length_cons, List.length_nil, Option.bind_some, Option.bind_none, id_eq, Nat.reduceEqDiff, Nat.reduceLT, Nat.reduceLeDiff, Nat.reduceAdd, Nat.zero_add, Nat.add_zero, zero_ne_one', one_ne_zero', Nat.succ_ne_self, false_and, and_true, true_and, if_pos, if_neg, ite_self, Option.some.injEq, reduceCtorEq, binI, intOp, shiftOp, maxI, minI, foldO, List.map_cons, List.map_nil, List.nil_append, List.append_nil, List.cons_append, decide_eq_true, decide_eq_false, decide_true, decide_false, int_beq, int_bne, wrap64, Bool.not_true, Bool.not_false, beq_self_eq_true, beq_tf, beq_ft, endQ_ret, endQ_norm, resultsE, mapO, rvE, loadFrom, PV.cells, PV.fits, PV.good, PV.pure, PV.low, PV.lowL, List.head?_cons, List.drop_zero, List.drop_succ_cons, List.take_succ_cons, List.take_zero, splice, List.length_append, lenOf, elems, fillParts, fillElems, dropSl, freshSlot, headSz_nil, headSz_cons, cleanFor, Fl.full, Ob.gen, look_keep, List.isEmpty_cons, List.isEmpty_nil, Nat.sub_zero, Nat.reduceBEq, Int.natCast_add, Int.natCast_one, natbeq_self, Bool.true_or, Bool.false_or, Bool.or_true, Bool.or_false, Bool.true_and, Bool.and_true, Bool.and_self, Bool.or_self, optD_call, eqTop, eqShL, eqSh, eq_self, ← decide_not, not_true_eq_false, not_false_eq_true, Int.reduceAdd, Int.reduceSub, Int.reduceMul, Int.reduceNeg, Int.reduceTMod, Int.reduceTDiv, Int.reduceLT, Int.reduceLE, Int.reduceEq, Int.reduceToNat, Nat.reduceMul, Nat.reduceSub, List.drop_succ_cons, List.drop_nil, k2, k3, k4, k5, k6, k16, k17, g1, g2, flds_len, Int.toNat_natCast, binS, str_beq, same_ok, hx, strs_low, flds_low, scts_low, funs_low, hm, hm', pn, pt])
              | with_reducible refine condK_bsplit (fun _ => ?_) (fun _ => ?_)
              | with_reducible refine optK_bsplit (fun _ => ?_) (fun _ => ?_)
              | with_reducible refine optD_bsplit (fun _ => ?_) (fun _ => ?_)
          exact hr _ (by rw [← hf]; simp [look, difG, hnm, hty])
      · have pn := eq_false hnm
        repeat' first
            | with_reducible refine condK_split (fun _ => ?_) (fun _ => ?_)
            | with_reducible refine optK_gsplit (fun _ => ?_) (fun _ => ?_)
            | with_reducible refine optD_gsplit (fun _ => ?_) (fun _ => ?_)
            | ((with_reducible refine K_keep ?_ ?_); · rfl)
            | (simp -implicitDefEqProofs (disch := first | omega | assumption) only [K_nil, K_skip, K_seq, K_reg, K_regd, K_cond, K_block, K_loop, K_exit, K_ret, K_onil, K_ocons, K_inil, K_icons, K_bnorm, K_bret, K_bexit, K_cret, K_cexit, optK_some, optD_c, optD_r, condK_t, condK_f, guS_t, guS_f, guardE, stepX, stepOp, callV, evX, Fr.put, Fr.lay, Fr.nm, layE, POp.slot, nextGen, mk_get, mk_set, mk_len, look, keepL, List.mem_cons, List.not_mem_nil, or_false, false_or, true_or, or_true, ↓reduceIte, hget_0, hset_0, getD_0, List.getElem?_cons_zero, List.getElem?_cons_succ, List.set_cons_zero, List.set_cons_succ, List.length_cons, List.length_nil, Option.bind_some, Option.bind_none, id_eq, Nat.reduceEqDiff, Nat.reduceLT, Nat.reduceLeDiff, Nat.reduceAdd, Nat.zero_add, Nat.add_zero, zero_ne_one', one_ne_zero', Nat.succ_ne_self, false_and, and_true, true_and, if_pos, if_neg, ite_self, Option.some.injEq, reduceCtorEq, binI, intOp, shiftOp, maxI, minI, foldO, List.map_cons, List.map_nil, List.nil_append, List.append_nil, List.cons_append, decide_eq_true, decide_eq_false, decide_true, decide_false, int_beq, int_bne, wrap64, Bool.not_true, Bool.not_false, beq_self_eq_true, beq_tf, beq_ft, endQ_ret, endQ_norm, resultsE, mapO, rvE, loadFrom, PV.cells, PV.fits, PV.good, PV.pure, PV.low, PV.lowL, List.head?_cons, List.drop_zero, List.drop_succ_cons, List.take_succ_cons, List.take_zero, splice, List.length_append, lenOf, elems, fillParts, fillElems, dropSl, freshSlot, headSz_nil, headSz_cons, cleanFor, Fl.full, Ob.gen, look_keep, List.isEmpty_cons, List.isEmpty_nil, Nat.sub_zero, Nat.reduceBEq, Int.natCast_add, Int.natCast_one, natbeq_self, Bool.true_or, Bool.false_or, Bool.or_true, Bool.or_false, Bool.true_and, Bool.and_true, Bool.and_self, Bool.or_self, optD_call, eqTop, eqShL, eqSh, eq_self, ← decide_not, not_true_eq_false, not_false_eq_true, Int.reduceAdd, Int.reduceSub, Int.reduceMul, Int.reduceNeg, Int.reduceTMod, Int.reduceTDiv, Int.reduceLT, Int.reduceLE, Int.reduceEq, Int.reduceToNat, Nat.reduceMul, Nat.reduceSub, List.drop_succ_cons, List.drop_nil, k2, k3, k4, k5, k6, k16, k17, g1, g2, flds_len, Int.toNat_natCast, binS, str_beq, same_ok, hx, strs_low, flds_low, scts_low, funs_low, hm, hm', pn])
            | with_reducible refine condK_bsplit (fun _ => ?_) (fun _ => ?_)
            | with_reducible refine optK_bsplit (fun _ => ?_) (fun _ => ?_)
            | with_reducible refine optD_bsplit (fun _ => ?_) (fun _ => ?_)
        exact hr _ (by rw [← hf]; simp [look, difG, hnm])
theorem dif_ok (m n : Mod) (a b : List Fld) (fa fb : Fl) (d : Int) (ha : a.length ≤ 1048577) (hb : b.length ≤ 1048577) (hk : ∀ f ∈ a, f.ty.kind ≠ 8) (h : Heap) : doCall E (callR E) 31 [.agg m.c, .agg n.c, .vs fa (flds a), .vs fb (flds b), .int .i64 d] h = some (.int .i64 (difF a b), h) := by
  have h1 := m.hm
  have h2 := n.hm
  refine call_pure (pf := p31) rfl rfl rfl rfl (by simp [PV.lowL, PV.low, strs_low, flds_low, scts_low, funs_low, h1, h2]) (by simp [PV.low, PV.lowL, strs_low, flds_low, scts_low, funs_low, h1, h2]) ?_ h
  show kQ E _ (endQ [⟨10, none⟩] _) .norm { lvl := 0, tmps := mk 60 [(0, .agg m.c), (1, .agg n.c), (2, .vs fa (flds a)), (3, .vs fb (flds b)), (4, .int .i64 d)], heap := [[]], defers := [] }
  repeat' first
      | with_reducible refine condK_split (fun _ => ?_) (fun _ => ?_)
      | with_reducible refine optK_gsplit (fun _ => ?_) (fun _ => ?_)
      | with_reducible refine optD_gsplit (fun _ => ?_) (fun _ => ?_)
      | ((with_reducible refine K_keep ?_ ?_); · rfl)
      | (simp -implicitDefEqProofs (disch := first | omega | assumption) only [K_nil, K_skip, K_seq, K_reg, K_regd, K_cond, K_block, K_loop, K_exit, K_ret, K_onil, K_ocons, K_inil, K_icons, K_bnorm, K_bret, K_bexit, K_cret, K_cexit, optK_some, optD_c, optD_r, condK_t, condK_f, guS_t, guS_f, guardE, stepX, stepOp, callV, evX, Fr.put, Fr.lay, Fr.nm, layE, POp.slot, nextGen, mk_get, mk_set, mk_len, look, keepL, List.mem_cons, List.not_mem_nil, or_false, false_or, true_or, or_true, ↓reduceIte, hget_0, hset_0, getD_0, List.getElem?_cons_zero, List.getElem?_cons_succ, List.set_cons_zero, List.set_cons_succ, List.length_cons, List.length_nil, Option.bind_some, Option.bind_none, id_eq, Nat.reduceEqDiff, Nat.reduceLT, Nat.reduceLeDiff, Nat.reduceAdd, Nat.zero_add, Nat.add_zero, zero_ne_one', one_ne_zero', Nat.succ_ne_self, false_and, and_true, true_and, if_pos, if_neg, ite_self, Option.some.injEq, reduceCtorEq, binI, intOp, shiftOp, maxI, minI, foldO, List.map_cons, List.map_nil, List.nil_append, List.append_nil, List.cons_append, decide_eq_true, decide_eq_false, decide_true, decide_false, int_beq, int_bne, wrap64, Bool.not_true, Bool.not_false, beq_self_eq_true, beq_tf, beq_ft, endQ_ret, endQ_norm, resultsE, mapO, rvE, loadFrom, PV.cells, PV.fits, PV.good, PV.pure, PV.low, PV.lowL, List.head?_cons, List.drop_zero, List.drop_succ_cons, List.take_succ_cons, List.take_zero, splice, List.length_append, lenOf, elems, fillParts, fillElems, dropSl, freshSlot, headSz_nil, headSz_cons, cleanFor, Fl.full, Ob.gen, look_keep, List.isEmpty_cons, List.isEmpty_nil, Nat.sub_zero, Nat.reduceBEq, Int.natCast_add, Int.natCast_one, natbeq_self, Bool.true_or, Bool.false_or, Bool.or_true, Bool.or_false, Bool.true_and, Bool.and_true, Bool.and_self, Bool.or_self, optD_call, eqTop, eqShL, eqSh, eq_self, ← decide_not, not_true_eq_false, not_false_eq_true, Int.reduceAdd, Int.reduceSub, Int.reduceMul, Int.reduceNeg, Int.reduceTMod, Int.reduceTDiv, Int.reduceLT, Int.reduceLE, Int.reduceEq, Int.reduceToNat, Nat.reduceMul, Nat.reduceSub, List.drop_succ_cons, List.drop_nil, flds_len])
      | with_reducible refine condK_bsplit (fun _ => ?_) (fun _ => ?_)
      | with_reducible refine optK_bsplit (fun _ => ?_) (fun _ => ?_)
      | with_reducible refine optD_bsplit (fun _ => ?_) (fun _ => ?_)
  refine dif_loop m n a b (fa := fa) (fb := fb) d ha hb hk (difF a b) _ rfl ?_ ?_ a [] b [] _ rfl rfl rfl rfl (by simp [look, look_keepL]) (by simp [look, look_keepL]) (by simp [look, look_keepL]) (by simp [look, look_keepL]) (by simp [look, look_keepL]) (by simp [look, look_keepL]) (by simp [look, look_keepL])
  · intro t h10
    repeat' first
        | with_reducible refine condK_split (fun _ => ?_) (fun _ => ?_)
        | with_reducible refine optK_gsplit (fun _ => ?_) (fun _ => ?_)
        | with_reducible refine optD_gsplit (fun _ => ?_) (fun _ => ?_)
        | ((with_reducible refine K_keep ?_ ?_); · rfl)
        | (simp -implicitDefEqProofs (disch := first | omega | assumption) only [K_nil, K_skip, K_seq, K_reg, K_regd, K_cond, K_block, K_loop, K_exit, K_ret, K_onil, K_ocons, K_inil, K_icons, K_bnorm, K_bret, K_bexit, K_cret, K_cexit, optK_some, optD_c, optD_r, condK_t, condK_f, guS_t, guS_f, guardE, stepX, stepOp, callV, evX, Fr.put, Fr.lay, Fr.nm, layE, POp.slot, nextGen, mk_get, mk_set, mk_len, look, keepL, List.mem_cons, List.not_mem_nil, or_false, false_or, true_or, or_true, ↓reduceIte, hget_0, hset_0, getD_0, List.getElem?_cons_zero, List.getElem?_cons_succ, List.set_cons_zero, List.set_cons_succ, List.length_cons, List.length_nil, Option.bind_some, Option.bind_none, id_eq, Nat.reduceEqDiff, Nat.reduceLT, Nat.reduceLeDiff, Nat.reduceAdd, Nat.zero_add, Nat.add_zero, zero_ne_one', one_ne_zero', Nat.succ_ne_self, false_and, and_true, true_and, if_pos, if_neg, ite_self, Option.some.injEq, reduceCtorEq, binI, intOp, shiftOp, maxI, minI, foldO, List.map_cons, List.map_nil, List.nil_append, List.append_nil, List.cons_append, decide_eq_true, decide_eq_false, decide_true, decide_false, int_beq, int_bne, wrap64, Bool.not_true, Bool.not_false, beq_self_eq_true, beq_tf, beq_ft, endQ_ret, endQ_norm, resultsE, mapO, rvE, loadFrom, PV.cells, PV.fits, PV.good, PV.pure, PV.low, PV.lowL, List.head?_cons, List.drop_zero, List.drop_succ_cons, List.take_succ_cons, List.take_zero, splice, List.length_append, lenOf, elems, fillParts, fillElems, dropSl, freshSlot, headSz_nil, headSz_cons, cleanFor, Fl.full, Ob.gen, look_keep, List.isEmpty_cons, List.isEmpty_nil, Nat.sub_zero, Nat.reduceBEq, Int.natCast_add, Int.natCast_one, natbeq_self, Bool.true_or, Bool.false_or, Bool.or_true, Bool.or_false, Bool.true_and, Bool.and_true, Bool.and_self, Bool.or_self, optD_call, eqTop, eqShL, eqSh, eq_self, ← decide_not, not_true_eq_false, not_false_eq_true, Int.reduceAdd, Int.reduceSub, Int.reduceMul, Int.reduceNeg, Int.reduceTMod, Int.reduceTDiv, Int.reduceLT, Int.reduceLE, Int.reduceEq, Int.reduceToNat, Nat.reduceMul, Nat.reduceSub, List.drop_succ_cons, List.drop_nil, h10])
        | with_reducible refine condK_bsplit (fun _ => ?_) (fun _ => ?_)
        | with_reducible refine optK_bsplit (fun _ => ?_) (fun _ => ?_)
        | with_reducible refine optD_bsplit (fun _ => ?_) (fun _ => ?_)
  · intro t hf k2 k3
    by_cases hl : a.length = b.length
    · rw [if_pos hl] at hf
      repeat' first
          | with_reducible refine condK_split (fun _ => ?_) (fun _ => ?_)
          | with_reducible refine optK_gsplit (fun _ => ?_) (fun _ => ?_)
          | with_reducible refine optD_gsplit (fun _ => ?_) (fun _ => ?_)
          | ((with_reducible refine K_keep ?_ ?_); · rfl)
          | (simp -implicitDefEqProofs (disch := first | omega | assumption) only [K_nil, K_skip, K_seq, K_reg, K_regd, K_cond, K_block, K_loop, K_exit, K_ret, K_onil, K_ocons, K_inil, K_icons, K_bnorm, K_bret, K_bexit, K_cret, K_cexit, optK_some, optD_c, optD_r, condK_t, condK_f, guS_t, guS_f, guardE, stepX, stepOp, callV, evX, Fr.put, Fr.lay, Fr.nm, layE, POp.slot, nextGen, mk_get, mk_set, mk_len, look, keepL, List.mem_cons, List.not_mem_nil, or_false, false_or, true_or, or_true, ↓reduceIte, hget_0, hset_0, getD_0, List.getElem?_cons_zero, List.getElem?_cons_succ, List.set_cons_zero, List.set_cons_succ, List.length_cons, List.length_nil, Option.bind_some, Option.bind_none, id_eq, Nat.reduceEqDiff, Nat.reduceLT, Nat.reduceLeDiff, Nat.reduceAdd, Nat.zero_add, Nat.add_zero, zero_ne_one', one_ne_zero', Nat.succ_ne_self, false_and, and_true, true_and, if_pos, if_neg, ite_self, Option.some.injEq, reduceCtorEq, binI, intOp, shiftOp, maxI, minI, foldO, List.map_cons, List.map_nil, List.nil_append, List.append_nil, List.cons_append, decide_eq_true, decide_eq_false, decide_true, decide_false, int_beq, int_bne, wrap64, Bool.not_true, Bool.not_false, beq_self_eq_true, beq_tf, beq_ft, endQ_ret, endQ_norm, resultsE, mapO, rvE, loadFrom, PV.cells, PV.fits, PV.good, PV.pure, PV.low, PV.lowL, List.head?_cons, List.drop_zero, List.drop_succ_cons, List.take_succ_cons, List.take_zero, splice, List.length_append, lenOf, elems, fillParts, fillElems, dropSl, freshSlot, headSz_nil, headSz_cons, cleanFor, Fl.full, Ob.gen, look_keep, List.isEmpty_cons, List.isEmpty_nil, Nat.sub_zero, Nat.reduceBEq, Int.natCast_add, Int.natCast_one, natbeq_self, Bool.true_or, Bool.false_or, Bool.or_true, Bool.or_false, Bool.true_and, Bool.and_true, Bool.and_self, Bool.or_self, optD_call, eqTop, eqShL, eqSh, eq_self, ← decide_not, not_true_eq_false, not_false_eq_true, Int.reduceAdd, Int.reduceSub, Int.reduceMul, Int.reduceNeg, Int.reduceTMod, Int.reduceTDiv, Int.reduceLT, Int.reduceLE, Int.reduceEq, Int.reduceToNat, Nat.reduceMul, Nat.reduceSub, List.drop_succ_cons, List.drop_nil, k2, k3, flds_len, hl, hf])
          | with_reducible refine condK_bsplit (fun _ => ?_) (fun _ => ?_)
          | with_reducible refine optK_bsplit (fun _ => ?_) (fun _ => ?_)
          | with_reducible refine optD_bsplit (fun _ => ?_) (fun _ => ?_)
    · rw [if_neg hl] at hf
      repeat' first
          | with_reducible refine condK_split (fun _ => ?_) (fun _ => ?_)
          | with_reducible refine optK_gsplit (fun _ => ?_) (fun _ => ?_)
          | with_reducible refine optD_gsplit (fun _ => ?_) (fun _ => ?_)
          | ((with_reducible refine K_keep ?_ ?_); · rfl)
          | (simp -implicitDefEqProofs (disch := first | omega | assumption) only [K_nil, K_skip, K_seq, K_reg, K_regd, K_cond, K_block, K_loop, K_exit, K_ret, K_onil, K_ocons, K_inil, K_icons, K_bnorm, K_bret, K_bexit, K_cret, K_cexit, optK_some, optD_c, optD_r, condK_t, condK_f, guS_t, guS_f, guardE, stepX, stepOp, callV, evX, Fr.put, Fr.lay, Fr.nm, layE, POp.slot, nextGen, mk_get, mk_set, mk_len, look, keepL, List.mem_cons, List.not_mem_nil, or_false, false_or, true_or, or_true, ↓reduceIte, hget_0, hset_0, getD_0, List.getElem?_cons_zero, List.getElem?_cons_succ, List.set_cons_zero, List.set_cons_succ, List.length_cons, List.length_nil, Option.bind_some, Option.bind_none, id_eq, Nat.reduceEqDiff, Nat.reduceLT, Nat.reduceLeDiff, Nat.reduceAdd, Nat.zero_add, Nat.add_zero, zero_ne_one', one_ne_zero', Nat.succ_ne_self, false_and, and_true, true_and, if_pos, if_neg, ite_self, Option.some.injEq, reduceCtorEq, binI, intOp, shiftOp, maxI, minI, foldO, List.map_cons, List.map_nil, List.nil_append, List.append_nil, List.cons_append, decide_eq_true, decide_eq_false, decide_true, decide_false, int_beq, int_bne, wrap64, Bool.not_true, Bool.not_false, beq_self_eq_true, beq_tf, beq_ft, endQ_ret, endQ_norm, resultsE, mapO, rvE, loadFrom, PV.cells, PV.fits, PV.good, PV.pure, PV.low, PV.lowL, List.head?_cons, List.drop_zero, List.drop_succ_cons, List.take_succ_cons, List.take_zero, splice, List.length_append, lenOf, elems, fillParts, fillElems, dropSl, freshSlot, headSz_nil, headSz_cons, cleanFor, Fl.full, Ob.gen, look_keep, List.isEmpty_cons, List.isEmpty_nil, Nat.sub_zero, Nat.reduceBEq, Int.natCast_add, Int.natCast_one, natbeq_self, Bool.true_or, Bool.false_or, Bool.or_true, Bool.or_false, Bool.true_and, Bool.and_true, Bool.and_self, Bool.or_self, optD_call, eqTop, eqShL, eqSh, eq_self, ← decide_not, not_true_eq_false, not_false_eq_true, Int.reduceAdd, Int.reduceSub, Int.reduceMul, Int.reduceNeg, Int.reduceTMod, Int.reduceTDiv, Int.reduceLT, Int.reduceLE, Int.reduceEq, Int.reduceToNat, Nat.reduceMul, Nat.reduceSub, List.drop_succ_cons, List.drop_nil, k2, k3, flds_len, hf])
          | with_reducible refine condK_bsplit (fun _ => ?_) (fun _ => ?_)
          | with_reducible refine optK_bsplit (fun _ => ?_) (fun _ => ?_)
          | with_reducible refine optD_bsplit (fun _ => ?_) (fun _ => ?_)
theorem ef_ok (m n : Mod) (a b : List Fld) (fa fb : Fl) (ha : a.length ≤ 1048577) (hb : b.length ≤ 1048577) (hk : ∀ f ∈ a, f.ty.kind ≠ 8) (h : Heap) : doCall E (callR E) 16 [.agg m.c, .agg n.c, .vs fa (flds a), .vs fb (flds b)] h = some (.int .i64 (difF a b), h) := by
  have h1 := m.hm
  have h2 := n.hm
  refine call_pure (pf := p16) rfl rfl rfl rfl (by simp [PV.lowL, PV.low, strs_low, flds_low, scts_low, funs_low, h1, h2]) (by simp [PV.low, PV.lowL, strs_low, flds_low, scts_low, funs_low, h1, h2]) ?_ h
  show kQ E _ (endQ [⟨8, none⟩] _) .norm { lvl := 0, tmps := mk 14 [(0, .agg m.c), (1, .agg n.c), (2, .vs fa (flds a)), (3, .vs fb (flds b))], heap := [[]], defers := [] }
  repeat' first
      | with_reducible refine condK_split (fun _ => ?_) (fun _ => ?_)
      | with_reducible refine optK_gsplit (fun _ => ?_) (fun _ => ?_)
      | with_reducible refine optD_gsplit (fun _ => ?_) (fun _ => ?_)
      | ((with_reducible refine K_keep ?_ ?_); · rfl)
      | (simp -implicitDefEqProofs (disch := first | omega | assumption) only [K_nil, K_skip, K_seq, K_reg, K_regd, K_cond, K_block, K_loop, K_exit, K_ret, K_onil, K_ocons, K_inil, K_icons, K_bnorm, K_bret, K_bexit, K_cret, K_cexit, optK_some, optD_c, optD_r, condK_t, condK_f, guS_t, guS_f, guardE, stepX, stepOp, callV, evX, Fr.put, Fr.lay, Fr.nm, layE, POp.slot, nextGen, mk_get, mk_set, mk_len, look, keepL, List.mem_cons, List.not_mem_nil, or_false, false_or, true_or, or_true, ↓reduceIte, hget_0, hset_0, getD_0, List.getElem?_cons_zero, List.getElem?_cons_succ, List.set_cons_zero, List.set_cons_succ, List.length_cons, List.length_nil, Option.bind_some, Option.bind_none, id_eq, Nat.reduceEqDiff, Nat.reduceLT, Nat.reduceLeDiff, Nat.reduceAdd, Nat.zero_add, Nat.add_zero, zero_ne_one', one_ne_zero', Nat.succ_ne_self, false_and, and_true, true_and, if_pos, if_neg, ite_self, Option.some.injEq, reduceCtorEq, binI, intOp, shiftOp, maxI, minI, foldO, List.map_cons, List.map_nil, List.nil_append, List.append_nil, List.cons_append, decide_eq_true, decide_eq_false, decide_true, decide_false, int_beq, int_bne, wrap64, Bool.not_true, Bool.not_false, beq_self_eq_true, beq_tf, beq_ft, endQ_ret, endQ_norm, resultsE, mapO, rvE, loadFrom, PV.cells, PV.fits, PV.good, PV.pure, PV.low, PV.lowL, List.head?_cons, List.drop_zero, List.drop_succ_cons, List.take_succ_cons, List.take_zero, splice, List.length_append, lenOf, elems, fillParts, fillElems, dropSl, freshSlot, headSz_nil, headSz_cons, cleanFor, Fl.full, Ob.gen, look_keep, List.isEmpty_cons, List.isEmpty_nil, Nat.sub_zero, Nat.reduceBEq, Int.natCast_add, Int.natCast_one, natbeq_self, Bool.true_or, Bool.false_or, Bool.or_true, Bool.or_false, Bool.true_and, Bool.and_true, Bool.and_self, Bool.or_self, optD_call, eqTop, eqShL, eqSh, eq_self, ← decide_not, not_true_eq_false, not_false_eq_true, Int.reduceAdd, Int.reduceSub, Int.reduceMul, Int.reduceNeg, Int.reduceTMod, Int.reduceTDiv, Int.reduceLT, Int.reduceLE, Int.reduceEq, Int.reduceToNat, Nat.reduceMul, Nat.reduceSub, List.drop_succ_cons, List.drop_nil, dif_ok, ha, hb, hk, strs_low, flds_low, scts_low, funs_low, h1, h2])
      | with_reducible refine condK_bsplit (fun _ => ?_) (fun _ => ?_)
      | with_reducible refine optK_bsplit (fun _ => ?_) (fun _ => ?_)
      | with_reducible refine optD_bsplit (fun _ => ?_) (fun _ => ?_)
end Go.VI.S
