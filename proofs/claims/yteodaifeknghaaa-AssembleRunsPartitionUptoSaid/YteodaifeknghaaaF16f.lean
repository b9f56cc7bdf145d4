/- Chapter 16: the law AssembleRunsPartition, evaluated. -/
import Derived.Test.YteodaifeknghaaaF16e
set_option maxRecDepth 100000
set_option linter.unusedSimpArgs false
namespace Go.VI.S
open Go.VI

def pos (zs : List Int) : List Int := zs.filter fun z => decide (0 ≤ z)
def nb : Bool → List Int → Nat
  | _, [] => 0
  | b, z :: r => if 0 ≤ z then (if b then 1 else 0) + nb false r else nb true r

theorem runsG_flat : ∀ (zs run : List Int) (out : List (List Int)), (runsG zs run out).flatten = out.flatten ++ run ++ pos zs
  | [], run, out => by
    unfold runsG
    split <;> simp_all [pos]
  | z :: zs, run, out => by
    unfold runsG
    split
    · rename_i h
      rw [runsG_flat zs]
      simp [pos, h]
    · rename_i h
      split
      · rename_i hr
        rw [runsG_flat zs, hr]
        simp [pos, h]
      · rw [runsG_flat zs]
        simp [pos, h]

theorem runsG_ne : ∀ (zs run : List Int) (out : List (List Int)), (∀ r ∈ out, r ≠ []) → ∀ r ∈ runsG zs run out, r ≠ []
  | [], run, out, ho, r, hr => by
    unfold runsG at hr
    split at hr
    · exact ho r hr
    · rename_i h
      rcases List.mem_append.1 hr with hr | hr
      · exact ho r hr
      · simp at hr; subst hr; exact h
  | z :: zs, run, out, ho, r, hr => by
    unfold runsG at hr
    split at hr
    · exact runsG_ne zs _ _ ho r hr
    · split at hr
      · exact runsG_ne zs _ _ ho r hr
      · rename_i h
        refine runsG_ne zs _ _ (fun x hx => ?_) r hr
        rcases List.mem_append.1 hx with hx | hx
        · exact ho x hx
        · simp at hx; subst hx; exact h

theorem runsG_nb : ∀ (zs run : List Int) (out : List (List Int)), (runsG zs run out).length = out.length + (if run = [] then 0 else 1) + nb (decide (run = [])) zs
  | [], run, out => by
    unfold runsG
    split <;> simp_all [nb]
  | z :: zs, run, out => by
    unfold runsG
    split
    · rename_i h
      rw [runsG_nb zs]
      by_cases hr : run = [] <;> simp [nb, h, hr] <;> omega
    · rename_i h
      split
      · rename_i hr
        rw [runsG_nb zs]
        simp [nb, h, hr]
      · rename_i hr
        rw [runsG_nb zs]
        simp [nb, h, hr]

theorem ints_hsz {zs : List Int} : headSz 1 (ints zs) = true := by
  cases zs <;> simp [ints, headSz, PV.cells]
theorem ints_app2 {r s : List Int} : ints r ++ ints s = ints (r ++ s) := by simp [ints]
theorem pos_le (zs : List Int) : (pos zs).length ≤ zs.length := List.length_filter_le _ _

theorem rp_loop1 {f : Fl} {zs : List Int} {L : List (List Int)} (hL : L.length ≤ 1048576) (hne : ∀ r ∈ L, r ≠ []) (hB : L.flatten.length ≤ 1048576) {ks : List KI} {Q : PEx → Fr → Prop}
    (hpost : ∀ l g1, look l 0 = .vs f (ints zs) → look l 3 = .vs .any (encRs L) → look l 4 = .sl (0, 0) g1 0 L.flatten.length → kQ E ks Q .norm { lvl := 0, tmps := mk 82 l, heap := [[some (.mem (ints L.flatten) g1 true 1), none]], defers := [] }) :
    ∀ (rest pre : List (List Int)) (all : List Int) (g1 : Nat) (l : List (Nat × PV)), L = pre ++ rest → L.flatten = all ++ rest.flatten → look l 0 = .vs f (ints zs) → look l 3 = .vs .any (encRs L) → look l 4 = .sl (0, 0) g1 0 all.length → look l 5 = .int .i64 pre.length →
      kQ E (.code p5l0 :: .blk 0 :: ks) Q .norm { lvl := 0, tmps := mk 82 l, heap := [[some (.mem (ints all) g1 true 1), none]], defers := [] } := by
  intro rest
  induction rest with
  | nil =>
    intro pre all g1 l hp ha h0 h3 h4 h5
    have hlen : L.length = pre.length := by rw [hp]; simp
    have : all = L.flatten := by rw [ha]; simp
    subst this
    refine loopK' (c := p5l0) rfl ?_
    repeat' first
        | with_reducible refine condK_split (fun _ => ?_) (fun _ => ?_)
        | with_reducible refine optK_gsplit (fun _ => ?_) (fun _ => ?_)
        | ((with_reducible refine K_keep ?_ ?_); · rfl)
        | (simp -implicitDefEqProofs (disch := first | omega | assumption) only [K_nil, K_skip, K_seq, K_reg, K_regd, K_cond, K_block, K_loop, K_exit, K_ret, K_onil, K_ocons, K_inil, K_icons, K_bnorm, K_bret, K_bexit, K_cret, K_cexit, optK_some, optD_c, optD_r, condK_t, condK_f, guS_t, guS_f, guardE, stepX, stepOp, callV, evX, Fr.put, Fr.lay, Fr.nm, layE, POp.slot, nextGen, mk_get, mk_set, mk_len, look, keepL, List.mem_cons, List.not_mem_nil, or_false, false_or, true_or, or_true, ↓reduceIte, hget_0, hset_0, getD_0, List.getElem?_cons_zero, List.getElem?_cons_succ, List.set_cons_zero, List.set_cons_succ, List.length_cons, List.length_nil, Option.bind_some, Option.bind_none, id_eq, Nat.reduceEqDiff, Nat.reduceLT, Nat.reduceLeDiff, Nat.reduceAdd, Nat.zero_add, Nat.add_zero, zero_ne_one', one_ne_zero', Nat.succ_ne_self, false_and, and_true, true_and, if_pos, if_neg, ite_self, Option.some.injEq, reduceCtorEq, binI, intOp, shiftOp, maxI, minI, foldO, List.map_cons, List.map_nil, List.nil_append, List.append_nil, List.cons_append, decide_eq_true, decide_eq_false, decide_true, decide_false, int_beq, int_bne, wrap64, Bool.not_true, Bool.not_false, beq_self_eq_true, beq_tf, beq_ft, endQ_ret, endQ_norm, resultsE, mapO, rvE, loadFrom, PV.cells, PV.fits, PV.good, PV.pure, PV.low, PV.lowL, List.head?_cons, List.drop_zero, List.drop_succ_cons, List.take_succ_cons, List.take_zero, splice, List.length_append, lenOf, elems, fillParts, fillElems, dropSl, freshSlot, headSz_nil, headSz_cons, cleanFor, Fl.full, Ob.gen, look_keep, List.isEmpty_cons, List.isEmpty_nil, Nat.sub_zero, Nat.reduceBEq, Int.natCast_add, Int.natCast_one, natbeq_self, Bool.true_or, Bool.false_or, Bool.or_true, Bool.or_false, Bool.true_and, Bool.and_true, Bool.and_self, Bool.or_self, optD_call, eqTop, eqShL, eqSh, eq_self, ← decide_not, not_true_eq_false, not_false_eq_true, Int.reduceAdd, Int.reduceSub, Int.reduceMul, Int.reduceNeg, Int.reduceTMod, Int.reduceTDiv, Int.reduceLT, Int.reduceLE, Int.reduceEq, Int.reduceToNat, Nat.reduceMul, Nat.reduceSub, List.drop_succ_cons, List.drop_nil, h0, h3, h4, h5, encRs_len])
    exact hpost _ _ (by simp [look, look_keepL, h0]) (by simp [look, look_keepL, h3]) (by simp only [look, look_keepL, h4]; rfl)
  | cons r rest ih =>
    intro pre all g1 l hp ha h0 h3 h4 h5
    have hlen : L.length = pre.length + rest.length + 1 := by rw [hp]; simp; omega
    have hget : rAt L pre.length = r := by rw [hp]; simp [rAt]
    have hr : 0 < r.length := List.length_pos_iff.2 (hne r (by rw [hp]; simp))
    have hB2 : all.length + r.length ≤ 1048576 := by
      rw [ha] at hB
      simp only [List.flatten_cons, List.length_append] at hB
      omega
    refine loopK' (c := p5l0) rfl ?_
    repeat' first
        | with_reducible refine condK_split (fun _ => ?_) (fun _ => ?_)
        | with_reducible refine optK_gsplit (fun _ => ?_) (fun _ => ?_)
        | ((with_reducible refine K_keep ?_ ?_); · rfl)
        | (simp -implicitDefEqProofs (disch := first | omega | assumption) only [K_nil, K_skip, K_seq, K_reg, K_regd, K_cond, K_block, K_loop, K_exit, K_ret, K_onil, K_ocons, K_inil, K_icons, K_bnorm, K_bret, K_bexit, K_cret, K_cexit, optK_some, optD_c, optD_r, condK_t, condK_f, guS_t, guS_f, guardE, stepX, stepOp, callV, evX, Fr.put, Fr.lay, Fr.nm, layE, POp.slot, nextGen, mk_get, mk_set, mk_len, look, keepL, List.mem_cons, List.not_mem_nil, or_false, false_or, true_or, or_true, ↓reduceIte, hget_0, hset_0, getD_0, List.getElem?_cons_zero, List.getElem?_cons_succ, List.set_cons_zero, List.set_cons_succ, List.length_cons, List.length_nil, Option.bind_some, Option.bind_none, id_eq, Nat.reduceEqDiff, Nat.reduceLT, Nat.reduceLeDiff, Nat.reduceAdd, Nat.zero_add, Nat.add_zero, zero_ne_one', one_ne_zero', Nat.succ_ne_self, false_and, and_true, true_and, if_pos, if_neg, ite_self, Option.some.injEq, reduceCtorEq, binI, intOp, shiftOp, maxI, minI, foldO, List.map_cons, List.map_nil, List.nil_append, List.append_nil, List.cons_append, decide_eq_true, decide_eq_false, decide_true, decide_false, int_beq, int_bne, wrap64, Bool.not_true, Bool.not_false, beq_self_eq_true, beq_tf, beq_ft, endQ_ret, endQ_norm, resultsE, mapO, rvE, loadFrom, PV.cells, PV.fits, PV.good, PV.pure, PV.low, PV.lowL, List.head?_cons, List.drop_zero, List.drop_succ_cons, List.take_succ_cons, List.take_zero, splice, List.length_append, lenOf, elems, fillParts, fillElems, dropSl, freshSlot, headSz_nil, headSz_cons, cleanFor, Fl.full, Ob.gen, look_keep, List.isEmpty_cons, List.isEmpty_nil, Nat.sub_zero, Nat.reduceBEq, Int.natCast_add, Int.natCast_one, natbeq_self, Bool.true_or, Bool.false_or, Bool.or_true, Bool.or_false, Bool.true_and, Bool.and_true, Bool.and_self, Bool.or_self, optD_call, eqTop, eqShL, eqSh, eq_self, ← decide_not, not_true_eq_false, not_false_eq_true, Int.reduceAdd, Int.reduceSub, Int.reduceMul, Int.reduceNeg, Int.reduceTMod, Int.reduceTDiv, Int.reduceLT, Int.reduceLE, Int.reduceEq, Int.reduceToNat, Nat.reduceMul, Nat.reduceSub, List.drop_succ_cons, List.drop_nil, h0, h3, h4, h5, encRs_len, encRs_get, hget, ints_len, ints_hsz, ints_take, ints_app2])
    exact ih (pre ++ [r]) (all ++ r) _ _ (by simp [hp]) (by rw [ha]; simp) (by simp [look, look_keepL, h0]) (by simp [look, look_keepL, h3]) (by simp [look, look_keepL]) (by simp [look])

set_option maxHeartbeats 1000000 in
theorem rp_loop2 {f : Fl} {zs : List Int} (hz : zs.length ≤ 1048576) {v3 : PV} {ks : List KI} {Q : PEx → Fr → Prop}
    (hpost : ∀ l g1, look l 3 = v3 → look l 4 = .sl (0, 0) g1 0 (pos zs).length → look l 6 = .int .i64 (pos zs).length → look l 7 = .int .i64 (nb true zs) → kQ E ks Q .norm { lvl := 0, tmps := mk 82 l, heap := [[some (.mem (ints (pos zs)) g1 true 1), none]], defers := [] }) :
    ∀ (rest pre : List Int) (b : Bool) (n g1 : Nat) (l : List (Nat × PV)), zs = pre ++ rest → n + nb b rest = nb true zs → n ≤ pre.length → (b = true ↔ pre.length = 0 ∨ at' zs ((pre.length : Int) - 1) < 0) →
      look l 0 = .vs f (ints zs) → look l 3 = v3 → look l 4 = .sl (0, 0) g1 0 (pos zs).length → look l 6 = .int .i64 (pos pre).length → look l 7 = .int .i64 n → look l 8 = .int .i64 pre.length →
      kQ E (.code p5l1 :: .blk 2 :: ks) Q .norm { lvl := 0, tmps := mk 82 l, heap := [[some (.mem (ints (pos zs)) g1 true 1), none]], defers := [] } := by
  intro rest
  induction rest with
  | nil =>
    intro pre b n g1 l hp hn hnl hb h0 h3 h4 h6 h7 h8
    have hlen : zs = pre := by rw [hp]; simp
    subst hlen
    refine loopK' (c := p5l1) rfl ?_
    repeat' first
        | with_reducible refine condK_split (fun _ => ?_) (fun _ => ?_)
        | with_reducible refine optK_gsplit (fun _ => ?_) (fun _ => ?_)
        | ((with_reducible refine K_keep ?_ ?_); · rfl)
        | (simp -implicitDefEqProofs (disch := first | omega | assumption) only [K_nil, K_skip, K_seq, K_reg, K_regd, K_cond, K_block, K_loop, K_exit, K_ret, K_onil, K_ocons, K_inil, K_icons, K_bnorm, K_bret, K_bexit, K_cret, K_cexit, optK_some, optD_c, optD_r, condK_t, condK_f, guS_t, guS_f, guardE, stepX, stepOp, callV, evX, Fr.put, Fr.lay, Fr.nm, layE, POp.slot, nextGen, mk_get, mk_set, mk_len, look, keepL, List.mem_cons, List.not_mem_nil, or_false, false_or, true_or, or_true, ↓reduceIte, hget_0, hset_0, getD_0, List.getElem?_cons_zero, List.getElem?_cons_succ, List.set_cons_zero, List.set_cons_succ, List.length_cons, List.length_nil, Option.bind_some, Option.bind_none, id_eq, Nat.reduceEqDiff, Nat.reduceLT, Nat.reduceLeDiff, Nat.reduceAdd, Nat.zero_add, Nat.add_zero, zero_ne_one', one_ne_zero', Nat.succ_ne_self, false_and, and_true, true_and, if_pos, if_neg, ite_self, Option.some.injEq, reduceCtorEq, binI, intOp, shiftOp, maxI, minI, foldO, List.map_cons, List.map_nil, List.nil_append, List.append_nil, List.cons_append, decide_eq_true, decide_eq_false, decide_true, decide_false, int_beq, int_bne, wrap64, Bool.not_true, Bool.not_false, beq_self_eq_true, beq_tf, beq_ft, endQ_ret, endQ_norm, resultsE, mapO, rvE, loadFrom, PV.cells, PV.fits, PV.good, PV.pure, PV.low, PV.lowL, List.head?_cons, List.drop_zero, List.drop_succ_cons, List.take_succ_cons, List.take_zero, splice, List.length_append, lenOf, elems, fillParts, fillElems, dropSl, freshSlot, headSz_nil, headSz_cons, cleanFor, Fl.full, Ob.gen, look_keep, List.isEmpty_cons, List.isEmpty_nil, Nat.sub_zero, Nat.reduceBEq, Int.natCast_add, Int.natCast_one, natbeq_self, Bool.true_or, Bool.false_or, Bool.or_true, Bool.or_false, Bool.true_and, Bool.and_true, Bool.and_self, Bool.or_self, optD_call, eqTop, eqShL, eqSh, eq_self, ← decide_not, not_true_eq_false, not_false_eq_true, Int.reduceAdd, Int.reduceSub, Int.reduceMul, Int.reduceNeg, Int.reduceTMod, Int.reduceTDiv, Int.reduceLT, Int.reduceLE, Int.reduceEq, Int.reduceToNat, Nat.reduceMul, Nat.reduceSub, List.drop_succ_cons, List.drop_nil, h0, h3, h4, h6, h7, h8, ints_len])
    have : n = nb true zs := by simpa [nb] using hn
    subst this
    exact hpost _ _ (by simp [look, look_keepL, h3]) (by simp [look, look_keepL, h4]) (by simp [look, look_keepL, h6]) (by simp [look, look_keepL, h7])
  | cons z r ih =>
    intro pre b n g1 l hp hn hnl hb h0 h3 h4 h6 h7 h8
    have hlen : zs.length = pre.length + r.length + 1 := by rw [hp]; simp; omega
    have hget : at' zs pre.length = z := by rw [hp]; simp [at']
    have hpl := pos_le pre
    have hpz := pos_le zs
    by_cases hz0 : z < 0
    · refine loopK' (c := p5l1) rfl ?_
      repeat' first
          | with_reducible refine condK_split (fun _ => ?_) (fun _ => ?_)
          | with_reducible refine optK_gsplit (fun _ => ?_) (fun _ => ?_)
          | ((with_reducible refine K_keep ?_ ?_); · rfl)
          | (simp -implicitDefEqProofs (disch := first | omega | assumption) only [K_nil, K_skip, K_seq, K_reg, K_regd, K_cond, K_block, K_loop, K_exit, K_ret, K_onil, K_ocons, K_inil, K_icons, K_bnorm, K_bret, K_bexit, K_cret, K_cexit, optK_some, optD_c, optD_r, condK_t, condK_f, guS_t, guS_f, guardE, stepX, stepOp, callV, evX, Fr.put, Fr.lay, Fr.nm, layE, POp.slot, nextGen, mk_get, mk_set, mk_len, look, keepL, List.mem_cons, List.not_mem_nil, or_false, false_or, true_or, or_true, ↓reduceIte, hget_0, hset_0, getD_0, List.getElem?_cons_zero, List.getElem?_cons_succ, List.set_cons_zero, List.set_cons_succ, List.length_cons, List.length_nil, Option.bind_some, Option.bind_none, id_eq, Nat.reduceEqDiff, Nat.reduceLT, Nat.reduceLeDiff, Nat.reduceAdd, Nat.zero_add, Nat.add_zero, zero_ne_one', one_ne_zero', Nat.succ_ne_self, false_and, and_true, true_and, if_pos, if_neg, ite_self, Option.some.injEq, reduceCtorEq, binI, intOp, shiftOp, maxI, minI, foldO, List.map_cons, List.map_nil, List.nil_append, List.append_nil, List.cons_append, decide_eq_true, decide_eq_false, decide_true, decide_false, int_beq, int_bne, wrap64, Bool.not_true, Bool.not_false, beq_self_eq_true, beq_tf, beq_ft, endQ_ret, endQ_norm, resultsE, mapO, rvE, loadFrom, PV.cells, PV.fits, PV.good, PV.pure, PV.low, PV.lowL, List.head?_cons, List.drop_zero, List.drop_succ_cons, List.take_succ_cons, List.take_zero, splice, List.length_append, lenOf, elems, fillParts, fillElems, dropSl, freshSlot, headSz_nil, headSz_cons, cleanFor, Fl.full, Ob.gen, look_keep, List.isEmpty_cons, List.isEmpty_nil, Nat.sub_zero, Nat.reduceBEq, Int.natCast_add, Int.natCast_one, natbeq_self, Bool.true_or, Bool.false_or, Bool.or_true, Bool.or_false, Bool.true_and, Bool.and_true, Bool.and_self, Bool.or_self, optD_call, eqTop, eqShL, eqSh, eq_self, ← decide_not, not_true_eq_false, not_false_eq_true, Int.reduceAdd, Int.reduceSub, Int.reduceMul, Int.reduceNeg, Int.reduceTMod, Int.reduceTDiv, Int.reduceLT, Int.reduceLE, Int.reduceEq, Int.reduceToNat, Nat.reduceMul, Nat.reduceSub, List.drop_succ_cons, List.drop_nil, h0, h3, h4, h6, h7, h8, ints_len, ints_get, hget])
      exact ih (pre ++ [z]) true n _ _ (by simp [hp]) (by rw [← hn]; simp [nb, show ¬ 0 ≤ z by omega]) (by simp; omega) (by simp; rw [hget]; exact hz0) (by simp [look, look_keepL, h0]) (by simp [look, look_keepL, h3]) (by simp [look, look_keepL, h4]) (by simp [look, look_keepL, h6, pos, show ¬ 0 ≤ z by omega]) (by simp [look, look_keepL, h7]) (by simp [look])
    · have hpos : pos zs = pos pre ++ z :: pos r := by rw [hp]; simp [pos, show 0 ≤ z by omega]
      have hpg : at' (pos zs) (pos pre).length = z := by rw [hpos]; simp [at']
      have hpl2 : (pos pre).length < (pos zs).length := by rw [hpos]; simp
      have hgi : (ints (pos zs))[(pos pre).length]? = some (.int .i64 z) := by
        have := ints_get (zs := pos zs) (j := (pos pre).length) (by omega) (by omega)
        simpa [hpg] using this
      have hst : (b = true ∧ pre.length = 0) ∨ (b = true ∧ 0 < pre.length ∧ at' zs ((pre.length : Int) - 1) < 0) ∨ (b = false ∧ 0 < pre.length ∧ 0 ≤ at' zs ((pre.length : Int) - 1)) := by
        cases b with
        | true =>
          rcases hb.1 rfl with h | h
          · exact .inl ⟨rfl, h⟩
          · by_cases h2 : pre.length = 0
            · exact .inl ⟨rfl, h2⟩
            · exact .inr (.inl ⟨rfl, by omega, h⟩)
        | false =>
          have : ¬ (pre.length = 0 ∨ at' zs ((pre.length : Int) - 1) < 0) := fun h => by have := hb.2 h; cases this
          exact .inr (.inr ⟨rfl, by omega, by omega⟩)
      clear hb
      have hnext : ∀ x : Nat, n + nb b (z :: r) = nb true zs → x = n + (if b then 1 else 0) → x + nb false r = nb true zs := by
        intro x h1 h2
        simp only [nb, show 0 ≤ z by omega, if_true] at h1
        omega
      have hnx := fun x => hnext x hn
      clear hnext hn hpos
      rcases hst with ⟨rfl, hp0⟩ | ⟨rfl, hp0, hp1⟩ | ⟨rfl, hp0, hp1⟩
      · refine loopK' (c := p5l1) rfl ?_
        repeat' first
            | with_reducible refine condK_split (fun _ => ?_) (fun _ => ?_)
            | with_reducible refine optK_gsplit (fun _ => ?_) (fun _ => ?_)
            | ((with_reducible refine K_keep ?_ ?_); · rfl)
            | (simp -implicitDefEqProofs (disch := first | omega | assumption) only [K_nil, K_skip, K_seq, K_reg, K_regd, K_cond, K_block, K_loop, K_exit, K_ret, K_onil, K_ocons, K_inil, K_icons, K_bnorm, K_bret, K_bexit, K_cret, K_cexit, optK_some, optD_c, optD_r, condK_t, condK_f, guS_t, guS_f, guardE, stepX, stepOp, callV, evX, Fr.put, Fr.lay, Fr.nm, layE, POp.slot, nextGen, mk_get, mk_set, mk_len, look, keepL, List.mem_cons, List.not_mem_nil, or_false, false_or, true_or, or_true, ↓reduceIte, hget_0, hset_0, getD_0, List.getElem?_cons_zero, List.getElem?_cons_succ, List.set_cons_zero, List.set_cons_succ, List.length_cons, List.length_nil, Option.bind_some, Option.bind_none, id_eq, Nat.reduceEqDiff, Nat.reduceLT, Nat.reduceLeDiff, Nat.reduceAdd, Nat.zero_add, Nat.add_zero, zero_ne_one', one_ne_zero', Nat.succ_ne_self, false_and, and_true, true_and, if_pos, if_neg, ite_self, Option.some.injEq, reduceCtorEq, binI, intOp, shiftOp, maxI, minI, foldO, List.map_cons, List.map_nil, List.nil_append, List.append_nil, List.cons_append, decide_eq_true, decide_eq_false, decide_true, decide_false, int_beq, int_bne, wrap64, Bool.not_true, Bool.not_false, beq_self_eq_true, beq_tf, beq_ft, endQ_ret, endQ_norm, resultsE, mapO, rvE, loadFrom, PV.cells, PV.fits, PV.good, PV.pure, PV.low, PV.lowL, List.head?_cons, List.drop_zero, List.drop_succ_cons, List.take_succ_cons, List.take_zero, splice, List.length_append, lenOf, elems, fillParts, fillElems, dropSl, freshSlot, headSz_nil, headSz_cons, cleanFor, Fl.full, Ob.gen, look_keep, List.isEmpty_cons, List.isEmpty_nil, Nat.sub_zero, Nat.reduceBEq, Int.natCast_add, Int.natCast_one, natbeq_self, Bool.true_or, Bool.false_or, Bool.or_true, Bool.or_false, Bool.true_and, Bool.and_true, Bool.and_self, Bool.or_self, optD_call, eqTop, eqShL, eqSh, eq_self, ← decide_not, not_true_eq_false, not_false_eq_true, Int.reduceAdd, Int.reduceSub, Int.reduceMul, Int.reduceNeg, Int.reduceTMod, Int.reduceTDiv, Int.reduceLT, Int.reduceLE, Int.reduceEq, Int.reduceToNat, Nat.reduceMul, Nat.reduceSub, List.drop_succ_cons, List.drop_nil, h0, h3, h4, h6, h7, h8, ints_len, ints_get, hget, hpg])
        exact ih (pre ++ [z]) false (n + 1) _ _ (by simp [hp]) (hnx _ rfl) (by simp; omega) (by simp; rw [hget]; omega) (by simp [look, look_keepL, h0]) (by simp [look, look_keepL, h3]) (by simp [look, look_keepL, h4]) (by simp [look, look_keepL, h6, pos, show 0 ≤ z by omega]) (by simp [look, look_keepL, h7]) (by simp [look])
      · refine loopK' (c := p5l1) rfl ?_
        repeat' first
            | with_reducible refine condK_split (fun _ => ?_) (fun _ => ?_)
            | with_reducible refine optK_gsplit (fun _ => ?_) (fun _ => ?_)
            | ((with_reducible refine K_keep ?_ ?_); · rfl)
            | (simp -implicitDefEqProofs (disch := first | omega | assumption) only [K_nil, K_skip, K_seq, K_reg, K_regd, K_cond, K_block, K_loop, K_exit, K_ret, K_onil, K_ocons, K_inil, K_icons, K_bnorm, K_bret, K_bexit, K_cret, K_cexit, optK_some, optD_c, optD_r, condK_t, condK_f, guS_t, guS_f, guardE, stepX, stepOp, callV, evX, Fr.put, Fr.lay, Fr.nm, layE, POp.slot, nextGen, mk_get, mk_set, mk_len, look, keepL, List.mem_cons, List.not_mem_nil, or_false, false_or, true_or, or_true, ↓reduceIte, hget_0, hset_0, getD_0, List.getElem?_cons_zero, List.getElem?_cons_succ, List.set_cons_zero, List.set_cons_succ, List.length_cons, List.length_nil, Option.bind_some, Option.bind_none, id_eq, Nat.reduceEqDiff, Nat.reduceLT, Nat.reduceLeDiff, Nat.reduceAdd, Nat.zero_add, Nat.add_zero, zero_ne_one', one_ne_zero', Nat.succ_ne_self, false_and, and_true, true_and, if_pos, if_neg, ite_self, Option.some.injEq, reduceCtorEq, binI, intOp, shiftOp, maxI, minI, foldO, List.map_cons, List.map_nil, List.nil_append, List.append_nil, List.cons_append, decide_eq_true, decide_eq_false, decide_true, decide_false, int_beq, int_bne, wrap64, Bool.not_true, Bool.not_false, beq_self_eq_true, beq_tf, beq_ft, endQ_ret, endQ_norm, resultsE, mapO, rvE, loadFrom, PV.cells, PV.fits, PV.good, PV.pure, PV.low, PV.lowL, List.head?_cons, List.drop_zero, List.drop_succ_cons, List.take_succ_cons, List.take_zero, splice, List.length_append, lenOf, elems, fillParts, fillElems, dropSl, freshSlot, headSz_nil, headSz_cons, cleanFor, Fl.full, Ob.gen, look_keep, List.isEmpty_cons, List.isEmpty_nil, Nat.sub_zero, Nat.reduceBEq, Int.natCast_add, Int.natCast_one, natbeq_self, Bool.true_or, Bool.false_or, Bool.or_true, Bool.or_false, Bool.true_and, Bool.and_true, Bool.and_self, Bool.or_self, optD_call, eqTop, eqShL, eqSh, eq_self, ← decide_not, not_true_eq_false, not_false_eq_true, Int.reduceAdd, Int.reduceSub, Int.reduceMul, Int.reduceNeg, Int.reduceTMod, Int.reduceTDiv, Int.reduceLT, Int.reduceLE, Int.reduceEq, Int.reduceToNat, Nat.reduceMul, Nat.reduceSub, List.drop_succ_cons, List.drop_nil, h0, h3, h4, h6, h7, h8, ints_len, ints_get, hget, hpg])
        exact ih (pre ++ [z]) false (n + 1) _ _ (by simp [hp]) (hnx _ rfl) (by simp; omega) (by simp; rw [hget]; omega) (by simp [look, look_keepL, h0]) (by simp [look, look_keepL, h3]) (by simp [look, look_keepL, h4]) (by simp [look, look_keepL, h6, pos, show 0 ≤ z by omega]) (by simp [look, look_keepL, h7]) (by simp [look])
      · refine loopK' (c := p5l1) rfl ?_
        repeat' first
            | with_reducible refine condK_split (fun _ => ?_) (fun _ => ?_)
            | with_reducible refine optK_gsplit (fun _ => ?_) (fun _ => ?_)
            | ((with_reducible refine K_keep ?_ ?_); · rfl)
            | (simp -implicitDefEqProofs (disch := first | omega | assumption) only [K_nil, K_skip, K_seq, K_reg, K_regd, K_cond, K_block, K_loop, K_exit, K_ret, K_onil, K_ocons, K_inil, K_icons, K_bnorm, K_bret, K_bexit, K_cret, K_cexit, optK_some, optD_c, optD_r, condK_t, condK_f, guS_t, guS_f, guardE, stepX, stepOp, callV, evX, Fr.put, Fr.lay, Fr.nm, layE, POp.slot, nextGen, mk_get, mk_set, mk_len, look, keepL, List.mem_cons, List.not_mem_nil, or_false, false_or, true_or, or_true, ↓reduceIte, hget_0, hset_0, getD_0, List.getElem?_cons_zero, List.getElem?_cons_succ, List.set_cons_zero, List.set_cons_succ, List.length_cons, List.length_nil, Option.bind_some, Option.bind_none, id_eq, Nat.reduceEqDiff, Nat.reduceLT, Nat.reduceLeDiff, Nat.reduceAdd, Nat.zero_add, Nat.add_zero, zero_ne_one', one_ne_zero', Nat.succ_ne_self, false_and, and_true, true_and, if_pos, if_neg, ite_self, Option.some.injEq, reduceCtorEq, binI, intOp, shiftOp, maxI, minI, foldO, List.map_cons, List.map_nil, List.nil_append, List.append_nil, List.cons_append, decide_eq_true, decide_eq_false, decide_true, decide_false, int_beq, int_bne, wrap64, Bool.not_true, Bool.not_false, beq_self_eq_true, beq_tf, beq_ft, endQ_ret, endQ_norm, resultsE, mapO, rvE, loadFrom, PV.cells, PV.fits, PV.good, PV.pure, PV.low, PV.lowL, List.head?_cons, List.drop_zero, List.drop_succ_cons, List.take_succ_cons, List.take_zero, splice, List.length_append, lenOf, elems, fillParts, fillElems, dropSl, freshSlot, headSz_nil, headSz_cons, cleanFor, Fl.full, Ob.gen, look_keep, List.isEmpty_cons, List.isEmpty_nil, Nat.sub_zero, Nat.reduceBEq, Int.natCast_add, Int.natCast_one, natbeq_self, Bool.true_or, Bool.false_or, Bool.or_true, Bool.or_false, Bool.true_and, Bool.and_true, Bool.and_self, Bool.or_self, optD_call, eqTop, eqShL, eqSh, eq_self, ← decide_not, not_true_eq_false, not_false_eq_true, Int.reduceAdd, Int.reduceSub, Int.reduceMul, Int.reduceNeg, Int.reduceTMod, Int.reduceTDiv, Int.reduceLT, Int.reduceLE, Int.reduceEq, Int.reduceToNat, Nat.reduceMul, Nat.reduceSub, List.drop_succ_cons, List.drop_nil, h0, h3, h4, h6, h7, h8, ints_len, ints_get, hget, hpg])
        exact ih (pre ++ [z]) false n _ _ (by simp [hp]) (hnx _ rfl) (by simp; omega) (by simp; rw [hget]; omega) (by simp [look, look_keepL, h0]) (by simp [look, look_keepL, h3]) (by simp [look, look_keepL, h4]) (by simp [look, look_keepL, h6, pos, show 0 ≤ z by omega]) (by simp [look, look_keepL, h7]) (by simp [look])

theorem law5 (f : Fl) (zs : List Int) (hz : zs.length ≤ 1048576) (h : Heap) : doCall E (callR E) 5 [.vs f (ints zs)] h = some (.bool true, h) := by
  have h1 := runsF_len zs
  have h2 : (runsF zs).flatten = pos zs := by simpa [runsF] using runsG_flat zs [] []
  have h3 : (runsF zs).length = nb true zs := by simpa [runsF] using runsG_nb zs [] []
  have h4 := pos_le zs
  refine call_pure (pf := p5) rfl rfl rfl rfl (by simp [PV.lowL, PV.low]) (by simp [PV.low, PV.lowL]) ?_ h
  show kQ E _ (endQ [⟨2, none⟩] _) .norm { lvl := 0, tmps := mk 82 [(0, .vs f (ints zs))], heap := [[none, none]], defers := [] }
  repeat' first
      | with_reducible refine condK_split (fun _ => ?_) (fun _ => ?_)
      | with_reducible refine optK_gsplit (fun _ => ?_) (fun _ => ?_)
      | ((with_reducible refine K_keep ?_ ?_); · rfl)
      | (simp -implicitDefEqProofs (disch := first | omega | assumption) only [K_nil, K_skip, K_seq, K_reg, K_regd, K_cond, K_block, K_loop, K_exit, K_ret, K_onil, K_ocons, K_inil, K_icons, K_bnorm, K_bret, K_bexit, K_cret, K_cexit, optK_some, optD_c, optD_r, condK_t, condK_f, guS_t, guS_f, guardE, stepX, stepOp, callV, evX, Fr.put, Fr.lay, Fr.nm, layE, POp.slot, nextGen, mk_get, mk_set, mk_len, look, keepL, List.mem_cons, List.not_mem_nil, or_false, false_or, true_or, or_true, ↓reduceIte, hget_0, hset_0, getD_0, List.getElem?_cons_zero, List.getElem?_cons_succ, List.set_cons_zero, List.set_cons_succ, List.length_cons, List.length_nil, Option.bind_some, Option.bind_none, id_eq, Nat.reduceEqDiff, Nat.reduceLT, Nat.reduceLeDiff, Nat.reduceAdd, Nat.zero_add, Nat.add_zero, zero_ne_one', one_ne_zero', Nat.succ_ne_self, false_and, and_true, true_and, if_pos, if_neg, ite_self, Option.some.injEq, reduceCtorEq, binI, intOp, shiftOp, maxI, minI, foldO, List.map_cons, List.map_nil, List.nil_append, List.append_nil, List.cons_append, decide_eq_true, decide_eq_false, decide_true, decide_false, int_beq, int_bne, wrap64, Bool.not_true, Bool.not_false, beq_self_eq_true, beq_tf, beq_ft, endQ_ret, endQ_norm, resultsE, mapO, rvE, loadFrom, PV.cells, PV.fits, PV.good, PV.pure, PV.low, PV.lowL, List.head?_cons, List.drop_zero, List.drop_succ_cons, List.take_succ_cons, List.take_zero, splice, List.length_append, lenOf, elems, fillParts, fillElems, dropSl, freshSlot, headSz_nil, headSz_cons, cleanFor, Fl.full, Ob.gen, look_keep, List.isEmpty_cons, List.isEmpty_nil, Nat.sub_zero, Nat.reduceBEq, Int.natCast_add, Int.natCast_one, natbeq_self, Bool.true_or, Bool.false_or, Bool.or_true, Bool.or_false, Bool.true_and, Bool.and_true, Bool.and_self, Bool.or_self, optD_call, eqTop, eqShL, eqSh, eq_self, ← decide_not, not_true_eq_false, not_false_eq_true, Int.reduceAdd, Int.reduceSub, Int.reduceMul, Int.reduceNeg, Int.reduceTMod, Int.reduceTDiv, Int.reduceLT, Int.reduceLE, Int.reduceEq, Int.reduceToNat, Nat.reduceMul, Nat.reduceSub, List.drop_succ_cons, List.drop_nil, ints_len, runs_ok])
  refine rp_loop1 (f := f) (zs := zs) (L := runsF zs) (by omega) (runsG_ne zs [] [] (fun r hr => by cases hr)) (by rw [h2]; omega) ?_ (runsF zs) [] [] 1 _ rfl rfl (by simp [look, look_keepL]) (by simp [look, look_keepL]) (by simp [look, look_keepL]) (by simp [look])
  rw [h2]
  intro l g1 e0 e3 e4
  repeat' first
      | with_reducible refine condK_split (fun _ => ?_) (fun _ => ?_)
      | with_reducible refine optK_gsplit (fun _ => ?_) (fun _ => ?_)
      | ((with_reducible refine K_keep ?_ ?_); · rfl)
      | (simp -implicitDefEqProofs (disch := first | omega | assumption) only [K_nil, K_skip, K_seq, K_reg, K_regd, K_cond, K_block, K_loop, K_exit, K_ret, K_onil, K_ocons, K_inil, K_icons, K_bnorm, K_bret, K_bexit, K_cret, K_cexit, optK_some, optD_c, optD_r, condK_t, condK_f, guS_t, guS_f, guardE, stepX, stepOp, callV, evX, Fr.put, Fr.lay, Fr.nm, layE, POp.slot, nextGen, mk_get, mk_set, mk_len, look, keepL, List.mem_cons, List.not_mem_nil, or_false, false_or, true_or, or_true, ↓reduceIte, hget_0, hset_0, getD_0, List.getElem?_cons_zero, List.getElem?_cons_succ, List.set_cons_zero, List.set_cons_succ, List.length_cons, List.length_nil, Option.bind_some, Option.bind_none, id_eq, Nat.reduceEqDiff, Nat.reduceLT, Nat.reduceLeDiff, Nat.reduceAdd, Nat.zero_add, Nat.add_zero, zero_ne_one', one_ne_zero', Nat.succ_ne_self, false_and, and_true, true_and, if_pos, if_neg, ite_self, Option.some.injEq, reduceCtorEq, binI, intOp, shiftOp, maxI, minI, foldO, List.map_cons, List.map_nil, List.nil_append, List.append_nil, List.cons_append, decide_eq_true, decide_eq_false, decide_true, decide_false, int_beq, int_bne, wrap64, Bool.not_true, Bool.not_false, beq_self_eq_true, beq_tf, beq_ft, endQ_ret, endQ_norm, resultsE, mapO, rvE, loadFrom, PV.cells, PV.fits, PV.good, PV.pure, PV.low, PV.lowL, List.head?_cons, List.drop_zero, List.drop_succ_cons, List.take_succ_cons, List.take_zero, splice, List.length_append, lenOf, elems, fillParts, fillElems, dropSl, freshSlot, headSz_nil, headSz_cons, cleanFor, Fl.full, Ob.gen, look_keep, List.isEmpty_cons, List.isEmpty_nil, Nat.sub_zero, Nat.reduceBEq, Int.natCast_add, Int.natCast_one, natbeq_self, Bool.true_or, Bool.false_or, Bool.or_true, Bool.or_false, Bool.true_and, Bool.and_true, Bool.and_self, Bool.or_self, optD_call, eqTop, eqShL, eqSh, eq_self, ← decide_not, not_true_eq_false, not_false_eq_true, Int.reduceAdd, Int.reduceSub, Int.reduceMul, Int.reduceNeg, Int.reduceTMod, Int.reduceTDiv, Int.reduceLT, Int.reduceLE, Int.reduceEq, Int.reduceToNat, Nat.reduceMul, Nat.reduceSub, List.drop_succ_cons, List.drop_nil, e0, e3, e4])
  refine rp_loop2 (f := f) (zs := zs) hz (v3 := .vs .any (encRs (runsF zs))) ?_ zs [] true 0 g1 _ rfl (by simp) (by simp) (by simp) (by simp [look, look_keepL, e0]) (by simp [look, look_keepL, e3]) (by simp [look, look_keepL, e4]) (by simp [look, look_keepL, pos]) (by simp [look, look_keepL]) (by simp [look])
  intro l' g1' e3' e4' e6' e7'
  repeat' first
      | with_reducible refine condK_split (fun _ => ?_) (fun _ => ?_)
      | with_reducible refine optK_gsplit (fun _ => ?_) (fun _ => ?_)
      | ((with_reducible refine K_keep ?_ ?_); · rfl)
      | (simp -implicitDefEqProofs (disch := first | omega | assumption) only [K_nil, K_skip, K_seq, K_reg, K_regd, K_cond, K_block, K_loop, K_exit, K_ret, K_onil, K_ocons, K_inil, K_icons, K_bnorm, K_bret, K_bexit, K_cret, K_cexit, optK_some, optD_c, optD_r, condK_t, condK_f, guS_t, guS_f, guardE, stepX, stepOp, callV, evX, Fr.put, Fr.lay, Fr.nm, layE, POp.slot, nextGen, mk_get, mk_set, mk_len, look, keepL, List.mem_cons, List.not_mem_nil, or_false, false_or, true_or, or_true, ↓reduceIte, hget_0, hset_0, getD_0, List.getElem?_cons_zero, List.getElem?_cons_succ, List.set_cons_zero, List.set_cons_succ, List.length_cons, List.length_nil, Option.bind_some, Option.bind_none, id_eq, Nat.reduceEqDiff, Nat.reduceLT, Nat.reduceLeDiff, Nat.reduceAdd, Nat.zero_add, Nat.add_zero, zero_ne_one', one_ne_zero', Nat.succ_ne_self, false_and, and_true, true_and, if_pos, if_neg, ite_self, Option.some.injEq, reduceCtorEq, binI, intOp, shiftOp, maxI, minI, foldO, List.map_cons, List.map_nil, List.nil_append, List.append_nil, List.cons_append, decide_eq_true, decide_eq_false, decide_true, decide_false, int_beq, int_bne, wrap64, Bool.not_true, Bool.not_false, beq_self_eq_true, beq_tf, beq_ft, endQ_ret, endQ_norm, resultsE, mapO, rvE, loadFrom, PV.cells, PV.fits, PV.good, PV.pure, PV.low, PV.lowL, List.head?_cons, List.drop_zero, List.drop_succ_cons, List.take_succ_cons, List.take_zero, splice, List.length_append, lenOf, elems, fillParts, fillElems, dropSl, freshSlot, headSz_nil, headSz_cons, cleanFor, Fl.full, Ob.gen, look_keep, List.isEmpty_cons, List.isEmpty_nil, Nat.sub_zero, Nat.reduceBEq, Int.natCast_add, Int.natCast_one, natbeq_self, Bool.true_or, Bool.false_or, Bool.or_true, Bool.or_false, Bool.true_and, Bool.and_true, Bool.and_self, Bool.or_self, optD_call, eqTop, eqShL, eqSh, eq_self, ← decide_not, not_true_eq_false, not_false_eq_true, Int.reduceAdd, Int.reduceSub, Int.reduceMul, Int.reduceNeg, Int.reduceTMod, Int.reduceTDiv, Int.reduceLT, Int.reduceLE, Int.reduceEq, Int.reduceToNat, Nat.reduceMul, Nat.reduceSub, List.drop_succ_cons, List.drop_nil, e3', e4', e6', e7', encRs_len, h3, ex_ok])
end Go.VI.S
