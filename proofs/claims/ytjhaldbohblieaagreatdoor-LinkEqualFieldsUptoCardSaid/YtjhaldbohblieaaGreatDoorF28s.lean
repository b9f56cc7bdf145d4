/- Chapter 28: the law LinkEqualFields, evaluated. -/
import Derived.Test.YtjhaldbohblieaaGreatDoorF28r
import Derived.Test.YtjhaldbohblieaaGreatDoorX28
import Derived.Test.YtjhaldbohblieaaGreatDoorVC
set_option maxRecDepth 100000
set_option linter.unusedSimpArgs false
set_option linter.unusedVariables false
set_option pp.deepTerms.threshold 4
set_option pp.deepTerms false
namespace Go.VI.S
open Go.VI
section
variable (m n : Mod) (a b : List Fld) (f : Fl) (g len : Nat) (o0 o1 o2 o3 o4 : Option Ob)
theorem efA (ha : a.length ≤ 1048577) (hb : b.length ≤ 1048577) (hk : ∀ f ∈ a, f.ty.kind ≠ 8) (hl : len = b.length) : doCall E (callR E) 16 [.agg m.c, .agg n.c, .vs f (flds a), .sl (0, 2) g 0 len] [[o0, o1, some (.mem (flds b) g true 3), o3, o4]] = some (.int .i64 (difF a b), [[o0, o1, some (.mem (flds b) g true 3), o3, o4]]) := by
  have h1 := m.hm
  have h2 := n.hm
  subst hl
  refine call_snap (pf := p16) (args' := [.agg m.c, .agg n.c, .vs f (flds a), .vs .any (flds b)]) rfl rfl (by simp [PV.lowL, PV.low, strs_low, flds_low, scts_low, funs_low, h1, h2]; rfl) ?_ (by simp [PV.lowL, PV.low, strs_low, flds_low, scts_low, funs_low, h1, h2]) (ef_ok m n a b f .any ha hb hk _) rfl
  simp [mapO, snap, PV.low, PV.lowL, strs_low, flds_low, scts_low, funs_low, h1, h2, hget, flds_len, flds_self]
theorem efB (ha : a.length ≤ 1048577) (hb : b.length ≤ 1048577) (hk : ∀ f ∈ b, f.ty.kind ≠ 8) (hl : len = b.length) : doCall E (callR E) 16 [.agg m.c, .agg n.c, .sl (0, 2) g 0 len, .vs f (flds a)] [[o0, o1, some (.mem (flds b) g true 3), o3, o4]] = some (.int .i64 (difF b a), [[o0, o1, some (.mem (flds b) g true 3), o3, o4]]) := by
  have h1 := m.hm
  have h2 := n.hm
  subst hl
  refine call_snap (pf := p16) (args' := [.agg m.c, .agg n.c, .vs .any (flds b), .vs f (flds a)]) rfl rfl (by simp [PV.lowL, PV.low, strs_low, flds_low, scts_low, funs_low, h1, h2]; rfl) ?_ (by simp [PV.lowL, PV.low, strs_low, flds_low, scts_low, funs_low, h1, h2]) (ef_ok m n b a .any f hb ha hk _) rfl
  simp [mapO, snap, PV.low, PV.lowL, strs_low, flds_low, scts_low, funs_low, h1, h2, hget, flds_len, flds_self]
theorem efC (ha : a.length ≤ 1048577) (hb : b.length ≤ 1048577) (hk : ∀ f ∈ a, f.ty.kind ≠ 8) (hl : len ≤ b.length) : doCall E (callR E) 16 [.agg m.c, .agg n.c, .vs f (flds a), .sl (0, 4) g 0 len] [[o0, o1, o2, o3, some (.mem (flds b) g true 3)]] = some (.int .i64 (difF a (b.take len)), [[o0, o1, o2, o3, some (.mem (flds b) g true 3)]]) := by
  have h1 := m.hm
  have h2 := n.hm
  have h3 : (b.take len).length ≤ 1048577 := by simp; omega
  refine call_snap (pf := p16) (args' := [.agg m.c, .agg n.c, .vs f (flds a), .vs .any (flds (b.take len))]) rfl rfl (by simp [PV.lowL, PV.low, strs_low, flds_low, scts_low, funs_low, h1, h2]; rfl) ?_ (by simp [PV.lowL, PV.low, strs_low, flds_low, scts_low, funs_low, h1, h2]) (ef_ok m n a (b.take len) f .any ha h3 hk _) rfl
  simp [mapO, snap, PV.low, PV.lowL, strs_low, flds_low, scts_low, funs_low, h1, h2, hget, flds_len, flds_take, hl]
theorem efD (ha : a.length ≤ 1048577) (hb : b.length ≤ 1048577) (hk : ∀ f ∈ b, f.ty.kind ≠ 8) (hl : len = b.length) : doCall E (callR E) 16 [.agg m.c, .agg n.c, .sl (0, 4) g 0 len, .vs f (flds a)] [[o0, o1, o2, o3, some (.mem (flds b) g true 3)]] = some (.int .i64 (difF b a), [[o0, o1, o2, o3, some (.mem (flds b) g true 3)]]) := by
  have h1 := m.hm
  have h2 := n.hm
  subst hl
  refine call_snap (pf := p16) (args' := [.agg m.c, .agg n.c, .vs .any (flds b), .vs f (flds a)]) rfl rfl (by simp [PV.lowL, PV.low, strs_low, flds_low, scts_low, funs_low, h1, h2]; rfl) ?_ (by simp [PV.lowL, PV.low, strs_low, flds_low, scts_low, funs_low, h1, h2]) (ef_ok m n b a .any f hb ha hk _) rfl
  simp [mapO, snap, PV.low, PV.lowL, strs_low, flds_low, scts_low, funs_low, h1, h2, hget, flds_len, flds_self]
end

/- ## The plain law -/
theorem difG_self : ∀ (l : List Fld) (i : Int), difG l l i = -1
  | [], _ => rfl
  | f :: r, i => by simp [difG, difG_self r]
theorem difG_more (x : Fld) (l : List Fld) : ∀ (i : Int), difG l (l ++ [x]) i = i + l.length ∧ difG (l ++ [x]) l i = i + l.length := by
  induction l with
  | nil => intro i; simp [difG]
  | cons f r ih => intro i; have := ih (i + 1); simp [difG, this]; omega
theorem difG_chg (nm : Str) : ∀ (l : List Fld) (k : Nat) (i : Int) (f : Fld), l[k]? = some f → f.name ≠ nm → difG l (l.set k ⟨nm, f.ty⟩) i = i + k ∧ difG (l.set k ⟨nm, f.ty⟩) l i = i + k
  | [], k, i, f, h, _ => by simp at h
  | x :: r, 0, i, f, h, hn => by
    simp at h
    subst h
    simp [difG, hn, Ne.symm hn]
  | x :: r, k + 1, i, f, h, hn => by
    have := difG_chg nm r k (i + 1) f (by simpa using h) hn
    simp [difG, this]
    omega
theorem take_set {l : List Fld} {k : Nat} {x : Fld} : (l.set k x).take k = l.take k := by
  apply List.ext_getElem?
  intro i
  simp only [List.getElem?_take, List.getElem?_set]
  split
  · rw [if_neg (by omega)]
  · rfl
theorem flds_push {r : List Fld} {nm tn : Str} {k : Int} : flds r ++ [PV.agg [.str nm, .int .i64 k, .str tn]] = flds (r ++ [⟨nm, ⟨k, tn⟩⟩]) := by simp [flds]
theorem flds_set {l : List Fld} {i : Nat} {nm tn : Str} {k : Int} : (flds l).set i (PV.agg [.str nm, .int .i64 k, .str tn]) = flds (l.set i ⟨nm, ⟨k, tn⟩⟩) := by simp [flds, List.map_set]

theorem chk_loop {fl : Fl} (l : List Fld) (hl8 : l.length ≤ 1048576) (k : Int) {cs : List PV} {ks : List KI} {Q : PEx → Fr → Prop}
    (hr : ∀ t, look t 6 = .bool true → kQ E ks Q .ret { lvl := 0, tmps := mk 113 t, heap := [[none, none, none, none, none]], defers := [] })
    (hn : ∀ t, (∀ f ∈ l, f.ty.kind ≠ 8) → look t 1 = .vs fl (flds l) → look t 2 = .int .i64 k → look t 3 = .ip cs → kQ E ks Q .norm { lvl := 0, tmps := mk 113 t, heap := [[none, none, none, none, none]], defers := [] }) :
    ∀ (rest pre : List Fld)  (t : List (Nat × PV)), l = pre ++ rest → (∀ f ∈ pre, f.ty.kind ≠ 8) →
      look t 1 = .vs fl (flds l) → look t 2 = .int .i64 k → look t 3 = .ip cs → look t 7 = .int .i64 pre.length →
      kQ E (.code p6l0 :: .blk 0 :: ks) Q .norm { lvl := 0, tmps := mk 113 t, heap := [[none, none, none, none, none]], defers := [] } := by
  intro rest
  have pu9 : pureB E 9 = true := rfl
  induction rest with
  | nil =>
    intro pre  t hl hi0 h1 h2 h3 h7
    have e : l.length = pre.length := by rw [hl]; simp
    refine loopK' (c := p6l0) rfl ?_
    repeat' first
        | with_reducible refine condK_split (fun _ => ?_) (fun _ => ?_)
        | with_reducible refine optK_gsplit (fun _ => ?_) (fun _ => ?_)
        | with_reducible refine optD_gsplit (fun _ => ?_) (fun _ => ?_)
        | ((with_reducible refine K_keep ?_ ?_); · rfl)
        | (simp -implicitDefEqProofs (disch := first | omega | assumption) only [K_nil, K_skip, K_seq, K_reg, K_regd, K_cond, K_block, K_loop, K_exit, K_ret, K_onil, K_ocons, K_inil, K_icons, K_bnorm, K_bret, K_bexit, K_cret, K_cexit, optK_some, optD_c, optD_r, condK_t, condK_f, guS_t, guS_f, guardE, stepX, stepOp, callV, evX, Fr.put, Fr.lay, Fr.nm, layE, POp.slot, nextGen, mk_get, mk_set, mk_len, look, keepL, List.mem_cons, List.not_mem_nil, or_false, false_or, true_or, or_true, ↓reduceIte, hget_0, hset_0, getD_0, List.getElem?_cons_zero, List.getElem?_cons_succ, List.set_cons_zero, List.set_cons_succ, List.length_cons, List.length_nil, Option.bind_some, Option.bind_none, id_eq, Nat.reduceEqDiff, Nat.reduceLT, Nat.reduceLeDiff, Nat.reduceAdd, Nat.zero_add, Nat.add_zero, zero_ne_one', one_ne_zero', Nat.succ_ne_self, false_and, and_true, true_and, if_pos, if_neg, ite_self, Option.some.injEq, reduceCtorEq, binI, intOp, shiftOp, maxI, minI, foldO, List.map_cons, List.map_nil, List.nil_append, List.append_nil, List.cons_append, decide_eq_true, decide_eq_false, decide_true, decide_false, int_beq, int_bne, wrap64, Bool.not_true, Bool.not_false, beq_self_eq_true, beq_tf, beq_ft, endQ_ret, endQ_norm, resultsE, mapO, rvE, loadFrom, PV.cells, PV.fits, PV.good, PV.pure, PV.low, PV.lowL, List.head?_cons, List.drop_zero, List.drop_succ_cons, List.take_succ_cons, List.take_zero, splice, List.length_append, lenOf, elems, fillParts, fillElems, dropSl, freshSlot, headSz_nil, headSz_cons, cleanFor, Fl.full, Ob.gen, look_keep, List.isEmpty_cons, List.isEmpty_nil, Nat.sub_zero, Nat.reduceBEq, Int.natCast_add, Int.natCast_one, natbeq_self, Bool.true_or, Bool.false_or, Bool.or_true, Bool.or_false, Bool.true_and, Bool.and_true, Bool.and_self, Bool.or_self, optD_call, eqTop, eqShL, eqSh, eq_self, ← decide_not, not_true_eq_false, not_false_eq_true, Int.reduceAdd, Int.reduceSub, Int.reduceMul, Int.reduceNeg, Int.reduceTMod, Int.reduceTDiv, Int.reduceLT, Int.reduceLE, Int.reduceEq, Int.reduceToNat, Nat.reduceMul, Nat.reduceSub, List.drop_succ_cons, List.drop_nil, h1, h2, h3, h7, e, flds_len, ex_ok])
        | with_reducible refine condK_bsplit (fun _ => ?_) (fun _ => ?_)
        | with_reducible refine optK_bsplit (fun _ => ?_) (fun _ => ?_)
        | with_reducible refine optD_bsplit (fun _ => ?_) (fun _ => ?_)
    exact hn _ (by rw [hl]; simpa using hi0) (by simp [look, look_keepL, h1]) (by simp [look, look_keepL, h2]) (by simp [look, look_keepL, h3])
  | cons s r ih =>
    intro pre  t hl hi0 h1 h2 h3 h7
    have e : l.length = pre.length + r.length + 1 := by rw [hl]; simp; omega
    have hg : (flds l)[pre.length]? = some (.agg [.str s.name, .int .i64 s.ty.kind, .str s.ty.name]) := by rw [hl]; exact get_at _ _ _ _
    refine loopK' (c := p6l0) rfl ?_
    repeat' first
        | with_reducible refine condK_split (fun _ => ?_) (fun _ => ?_)
        | with_reducible refine optK_gsplit (fun _ => ?_) (fun _ => ?_)
        | with_reducible refine optD_gsplit (fun _ => ?_) (fun _ => ?_)
        | ((with_reducible refine K_keep ?_ ?_); · rfl)
        | (simp -implicitDefEqProofs (disch := first | omega | assumption) only [K_nil, K_skip, K_seq, K_reg, K_regd, K_cond, K_block, K_loop, K_exit, K_ret, K_onil, K_ocons, K_inil, K_icons, K_bnorm, K_bret, K_bexit, K_cret, K_cexit, optK_some, optD_c, optD_r, condK_t, condK_f, guS_t, guS_f, guardE, stepX, stepOp, callV, evX, Fr.put, Fr.lay, Fr.nm, layE, POp.slot, nextGen, mk_get, mk_set, mk_len, look, keepL, List.mem_cons, List.not_mem_nil, or_false, false_or, true_or, or_true, ↓reduceIte, hget_0, hset_0, getD_0, List.getElem?_cons_zero, List.getElem?_cons_succ, List.set_cons_zero, List.set_cons_succ, List.length_cons, List.length_nil, Option.bind_some, Option.bind_none, id_eq, Nat.reduceEqDiff, Nat.reduceLT, Nat.reduceLeDiff, Nat.reduceAdd, Nat.zero_add, Nat.add_zero, zero_ne_one', one_ne_zero', Nat.succ_ne_self, false_and, and_true, true_and, if_pos, if_neg, ite_self, Option.some.injEq, reduceCtorEq, binI, intOp, shiftOp, maxI, minI, foldO, List.map_cons, List.map_nil, List.nil_append, List.append_nil, List.cons_append, decide_eq_true, decide_eq_false, decide_true, decide_false, int_beq, int_bne, wrap64, Bool.not_true, Bool.not_false, beq_self_eq_true, beq_tf, beq_ft, endQ_ret, endQ_norm, resultsE, mapO, rvE, loadFrom, PV.cells, PV.fits, PV.good, PV.pure, PV.low, PV.lowL, List.head?_cons, List.drop_zero, List.drop_succ_cons, List.take_succ_cons, List.take_zero, splice, List.length_append, lenOf, elems, fillParts, fillElems, dropSl, freshSlot, headSz_nil, headSz_cons, cleanFor, Fl.full, Ob.gen, look_keep, List.isEmpty_cons, List.isEmpty_nil, Nat.sub_zero, Nat.reduceBEq, Int.natCast_add, Int.natCast_one, natbeq_self, Bool.true_or, Bool.false_or, Bool.or_true, Bool.or_false, Bool.true_and, Bool.and_true, Bool.and_self, Bool.or_self, optD_call, eqTop, eqShL, eqSh, eq_self, ← decide_not, not_true_eq_false, not_false_eq_true, Int.reduceAdd, Int.reduceSub, Int.reduceMul, Int.reduceNeg, Int.reduceTMod, Int.reduceTDiv, Int.reduceLT, Int.reduceLE, Int.reduceEq, Int.reduceToNat, Nat.reduceMul, Nat.reduceSub, List.drop_succ_cons, List.drop_nil, h1, h2, h3, h7, hg, flds_len, Int.toNat_natCast, ex_ok])
        | with_reducible refine condK_bsplit (fun _ => ?_) (fun _ => ?_)
        | with_reducible refine optK_bsplit (fun _ => ?_) (fun _ => ?_)
        | with_reducible refine optD_bsplit (fun _ => ?_) (fun _ => ?_)
    · exact hr _ (by simp [look])
    · rename_i hne
      have hi1 : ∀ f ∈ pre ++ [s], f.ty.kind ≠ 8 := by
        intro f hf
        rcases List.mem_append.1 hf with hf | hf
        · exact hi0 f hf
        · simp at hf; subst hf; exact hne
      refine ih (pre ++ [s])  _ (by simp [hl]) hi1 (by simp [look, look_keepL, h1]) (by simp [look, look_keepL, h2]) (by simp [look, look_keepL, h3]) (by simp [look, look_keepL, h7])
set_option maxHeartbeats 1000000 in
theorem law6 (m n : Mod) (fl : Fl) (l : List Fld) (hl : l.length ≤ 1048576) (hnm : ∀ f ∈ l, f.name.length ≤ 1048576) (k : Int) (h : Heap) : doCall E (callR E) 6 [.agg (m.c ++ n.c), .vs fl (flds l), .int .i64 k] h = some (.bool true, h) := by
  have h1 := m.hm
  have h2 := n.hm
  refine call_pure (pf := p6) rfl rfl rfl rfl (by simp [PV.lowL, PV.low, strs_low, flds_low, scts_low, funs_low, h1, h2]) (by simp [PV.low, PV.lowL, strs_low, flds_low, scts_low, funs_low, h1, h2]) ?_ h
  show kQ E _ (endQ [⟨6, none⟩] _) .norm { lvl := 0, tmps := mk 113 [(0, .agg (m.c ++ n.c)), (1, .vs fl (flds l)), (2, .int .i64 k)], heap := [[none, none, none, none, none]], defers := [] }
  have pu9 : pureB E 9 = true := rfl
  have pu16 : pureB E 16 = true := rfl
  repeat' first
      | with_reducible refine condK_split (fun _ => ?_) (fun _ => ?_)
      | with_reducible refine optK_gsplit (fun _ => ?_) (fun _ => ?_)
      | with_reducible refine optD_gsplit (fun _ => ?_) (fun _ => ?_)
      | ((with_reducible refine K_keep ?_ ?_); · rfl)
      | (simp -implicitDefEqProofs (disch := first | omega | assumption) only [K_nil, K_skip, K_seq, K_reg, K_regd, K_cond, K_block, K_loop, K_exit, K_ret, K_onil, K_ocons, K_inil, K_icons, K_bnorm, K_bret, K_bexit, K_cret, K_cexit, optK_some, optD_c, optD_r, condK_t, condK_f, guS_t, guS_f, guardE, stepX, stepOp, callV, evX, Fr.put, Fr.lay, Fr.nm, layE, POp.slot, nextGen, mk_get, mk_set, mk_len, look, keepL, List.mem_cons, List.not_mem_nil, or_false, false_or, true_or, or_true, ↓reduceIte, hget_0, hset_0, getD_0, List.getElem?_cons_zero, List.getElem?_cons_succ, List.set_cons_zero, List.set_cons_succ, List.length_cons, List.length_nil, Option.bind_some, Option.bind_none, id_eq, Nat.reduceEqDiff, Nat.reduceLT, Nat.reduceLeDiff, Nat.reduceAdd, Nat.zero_add, Nat.add_zero, zero_ne_one', one_ne_zero', Nat.succ_ne_self, false_and, and_true, true_and, if_pos, if_neg, ite_self, Option.some.injEq, reduceCtorEq, binI, intOp, shiftOp, maxI, minI, foldO, List.map_cons, List.map_nil, List.nil_append, List.append_nil, List.cons_append, decide_eq_true, decide_eq_false, decide_true, decide_false, int_beq, int_bne, wrap64, Bool.not_true, Bool.not_false, beq_self_eq_true, beq_tf, beq_ft, endQ_ret, endQ_norm, resultsE, mapO, rvE, loadFrom, PV.cells, PV.fits, PV.good, PV.pure, PV.low, PV.lowL, List.head?_cons, List.drop_zero, List.drop_succ_cons, List.take_succ_cons, List.take_zero, splice, List.length_append, lenOf, elems, fillParts, fillElems, dropSl, freshSlot, headSz_nil, headSz_cons, cleanFor, Fl.full, Ob.gen, look_keep, List.isEmpty_cons, List.isEmpty_nil, Nat.sub_zero, Nat.reduceBEq, Int.natCast_add, Int.natCast_one, natbeq_self, Bool.true_or, Bool.false_or, Bool.or_true, Bool.or_false, Bool.true_and, Bool.and_true, Bool.and_self, Bool.or_self, optD_call, eqTop, eqShL, eqSh, eq_self, ← decide_not, not_true_eq_false, not_false_eq_true, Int.reduceAdd, Int.reduceSub, Int.reduceMul, Int.reduceNeg, Int.reduceTMod, Int.reduceTDiv, Int.reduceLT, Int.reduceLE, Int.reduceEq, Int.reduceToNat, Nat.reduceMul, Nat.reduceSub, List.drop_succ_cons, List.drop_nil])
      | with_reducible refine condK_bsplit (fun _ => ?_) (fun _ => ?_)
      | with_reducible refine optK_bsplit (fun _ => ?_) (fun _ => ?_)
      | with_reducible refine optD_bsplit (fun _ => ?_) (fun _ => ?_)
  refine chk_loop (fl := fl) l hl k (cs := m.c ++ n.c) ?_ ?_ l [] _ rfl (fun f hf => by simp at hf) (by simp [look, look_keepL]) (by simp [look, look_keepL]) (by simp [look, look_keepL]) (by simp [look, look_keepL])
  · intro t h6
    repeat' first
        | with_reducible refine condK_split (fun _ => ?_) (fun _ => ?_)
        | with_reducible refine optK_gsplit (fun _ => ?_) (fun _ => ?_)
        | with_reducible refine optD_gsplit (fun _ => ?_) (fun _ => ?_)
        | ((with_reducible refine K_keep ?_ ?_); · rfl)
        | (simp -implicitDefEqProofs (disch := first | omega | assumption) only [K_nil, K_skip, K_seq, K_reg, K_regd, K_cond, K_block, K_loop, K_exit, K_ret, K_onil, K_ocons, K_inil, K_icons, K_bnorm, K_bret, K_bexit, K_cret, K_cexit, optK_some, optD_c, optD_r, condK_t, condK_f, guS_t, guS_f, guardE, stepX, stepOp, callV, evX, Fr.put, Fr.lay, Fr.nm, layE, POp.slot, nextGen, mk_get, mk_set, mk_len, look, keepL, List.mem_cons, List.not_mem_nil, or_false, false_or, true_or, or_true, ↓reduceIte, hget_0, hset_0, getD_0, List.getElem?_cons_zero, List.getElem?_cons_succ, List.set_cons_zero, List.set_cons_succ, List.length_cons, List.length_nil, Option.bind_some, Option.bind_none, id_eq, Nat.reduceEqDiff, Nat.reduceLT, Nat.reduceLeDiff, Nat.reduceAdd, Nat.zero_add, Nat.add_zero, zero_ne_one', one_ne_zero', Nat.succ_ne_self, false_and, and_true, true_and, if_pos, if_neg, ite_self, Option.some.injEq, reduceCtorEq, binI, intOp, shiftOp, maxI, minI, foldO, List.map_cons, List.map_nil, List.nil_append, List.append_nil, List.cons_append, decide_eq_true, decide_eq_false, decide_true, decide_false, int_beq, int_bne, wrap64, Bool.not_true, Bool.not_false, beq_self_eq_true, beq_tf, beq_ft, endQ_ret, endQ_norm, resultsE, mapO, rvE, loadFrom, PV.cells, PV.fits, PV.good, PV.pure, PV.low, PV.lowL, List.head?_cons, List.drop_zero, List.drop_succ_cons, List.take_succ_cons, List.take_zero, splice, List.length_append, lenOf, elems, fillParts, fillElems, dropSl, freshSlot, headSz_nil, headSz_cons, cleanFor, Fl.full, Ob.gen, look_keep, List.isEmpty_cons, List.isEmpty_nil, Nat.sub_zero, Nat.reduceBEq, Int.natCast_add, Int.natCast_one, natbeq_self, Bool.true_or, Bool.false_or, Bool.or_true, Bool.or_false, Bool.true_and, Bool.and_true, Bool.and_self, Bool.or_self, optD_call, eqTop, eqShL, eqSh, eq_self, ← decide_not, not_true_eq_false, not_false_eq_true, Int.reduceAdd, Int.reduceSub, Int.reduceMul, Int.reduceNeg, Int.reduceTMod, Int.reduceTDiv, Int.reduceLT, Int.reduceLE, Int.reduceEq, Int.reduceToNat, Nat.reduceMul, Nat.reduceSub, List.drop_succ_cons, List.drop_nil, h6])
        | with_reducible refine condK_bsplit (fun _ => ?_) (fun _ => ?_)
        | with_reducible refine optK_bsplit (fun _ => ?_) (fun _ => ?_)
        | with_reducible refine optD_bsplit (fun _ => ?_) (fun _ => ?_)
  · intro t hk k1 k2 k3
    have hself : difF l l = -1 := difG_self l 0
    by_cases hin : 0 ≤ k ∧ k < l.length
    · obtain ⟨j, rfl⟩ := Int.eq_ofNat_of_zero_le hin.1
      have hj : j < l.length := by omega
      obtain ⟨f, hf⟩ : ∃ f, l[j]? = some f := ⟨l[j], by simp [hj]⟩
      have hfm : f ∈ l := List.mem_of_getElem? hf
      have hfn := hnm f hfm
      have hg : (flds l)[j]? = some (.agg [.str f.name, .int .i64 f.ty.kind, .str f.ty.name]) := by simp [flds, hf]
      have hne : f.name ≠ f.name ++ [120] := by intro e; have := congrArg List.length e; simp at this
      have c1 : difF l (l.set j ⟨f.name ++ [120], f.ty⟩) = j := by have := (difG_chg (f.name ++ [120]) l j 0 f hf hne).1; simpa [difF] using this
      have c2 : difF (l.set j ⟨f.name ++ [120], f.ty⟩) l = j := by have := (difG_chg (f.name ++ [120]) l j 0 f hf hne).2; simpa [difF] using this
      have c3 : difF (l.take j) ((l.set j ⟨f.name ++ [120], f.ty⟩).take j) = -1 := by rw [take_set]; exact difG_self _ 0
      have hsl : (l.set j ⟨f.name ++ [120], f.ty⟩).length = l.length := by simp
      have hst : (l.set j ⟨f.name ++ [120], f.ty⟩).take l.length = l.set j ⟨f.name ++ [120], f.ty⟩ := List.take_of_length_le (by simp)
      have hk2 : ∀ x ∈ l.set j ⟨f.name ++ [120], f.ty⟩, x.ty.kind ≠ 8 := by
        intro x hx
        rcases List.mem_or_eq_of_mem_set hx with hx | hx
        · exact hk x hx
        · subst hx; exact hk f hfm
      have hk3 : ∀ x ∈ l.take j, x.ty.kind ≠ 8 := fun x hx => hk x (List.mem_of_mem_take hx)
      have hl1 : l.length ≤ 1048577 := by omega
      have hl2 : (l.set j ⟨f.name ++ [120], f.ty⟩).length ≤ 1048577 := by omega
      have hl3 : (l.take j).length ≤ 1048577 := by simp; omega
      repeat' first
          | with_reducible refine condK_split (fun _ => ?_) (fun _ => ?_)
          | with_reducible refine optK_gsplit (fun _ => ?_) (fun _ => ?_)
          | with_reducible refine optD_gsplit (fun _ => ?_) (fun _ => ?_)
          | ((with_reducible refine K_keep ?_ ?_); · rfl)
          | (simp -implicitDefEqProofs (disch := first | omega | assumption) only [K_nil, K_skip, K_seq, K_reg, K_regd, K_cond, K_block, K_loop, K_exit, K_ret, K_onil, K_ocons, K_inil, K_icons, K_bnorm, K_bret, K_bexit, K_cret, K_cexit, optK_some, optD_c, optD_r, condK_t, condK_f, guS_t, guS_f, guardE, stepX, stepOp, callV, evX, Fr.put, Fr.lay, Fr.nm, layE, POp.slot, nextGen, mk_get, mk_set, mk_len, look, keepL, List.mem_cons, List.not_mem_nil, or_false, false_or, true_or, or_true, ↓reduceIte, hget_0, hset_0, getD_0, List.getElem?_cons_zero, List.getElem?_cons_succ, List.set_cons_zero, List.set_cons_succ, List.length_cons, List.length_nil, Option.bind_some, Option.bind_none, id_eq, Nat.reduceEqDiff, Nat.reduceLT, Nat.reduceLeDiff, Nat.reduceAdd, Nat.zero_add, Nat.add_zero, zero_ne_one', one_ne_zero', Nat.succ_ne_self, false_and, and_true, true_and, if_pos, if_neg, ite_self, Option.some.injEq, reduceCtorEq, binI, intOp, shiftOp, maxI, minI, foldO, List.map_cons, List.map_nil, List.nil_append, List.append_nil, List.cons_append, decide_eq_true, decide_eq_false, decide_true, decide_false, int_beq, int_bne, wrap64, Bool.not_true, Bool.not_false, beq_self_eq_true, beq_tf, beq_ft, endQ_ret, endQ_norm, resultsE, mapO, rvE, loadFrom, PV.cells, PV.fits, PV.good, PV.pure, PV.low, PV.lowL, List.head?_cons, List.drop_zero, List.drop_succ_cons, List.take_succ_cons, List.take_zero, splice, List.length_append, lenOf, elems, fillParts, fillElems, dropSl, freshSlot, headSz_nil, headSz_cons, cleanFor, Fl.full, Ob.gen, look_keep, List.isEmpty_cons, List.isEmpty_nil, Nat.sub_zero, Nat.reduceBEq, Int.natCast_add, Int.natCast_one, natbeq_self, Bool.true_or, Bool.false_or, Bool.or_true, Bool.or_false, Bool.true_and, Bool.and_true, Bool.and_self, Bool.or_self, optD_call, eqTop, eqShL, eqSh, eq_self, ← decide_not, not_true_eq_false, not_false_eq_true, Int.reduceAdd, Int.reduceSub, Int.reduceMul, Int.reduceNeg, Int.reduceTMod, Int.reduceTDiv, Int.reduceLT, Int.reduceLE, Int.reduceEq, Int.reduceToNat, Nat.reduceMul, Nat.reduceSub, List.drop_succ_cons, List.drop_nil, flds_same, strs_same, scts_same, funs_same, main_same, k1, k2, k3, flds_len, ef_ok, hk, hl1, hself, flds_self, flds_head, Int.toNat_natCast, hg, binS, flds_set, ty_eta, efC, efD, hsl, hst, hk2, hk3, hl2, hl3, c1, c2, c3, boundsE, bound, Option.isSome_none, Option.isNone_none, Bool.false_eq_true, flds_take, ex_ok, strs_low, flds_low, scts_low, funs_low, h1, h2, stabG, stabS, same_agg, same_ip, same_int, same_bool, same_str, same_vs, same_sl, same_ptr, sameL_nil, sameL_cons])
          | with_reducible refine condK_bsplit (fun _ => ?_) (fun _ => ?_)
          | with_reducible refine optK_bsplit (fun _ => ?_) (fun _ => ?_)
          | with_reducible refine optD_bsplit (fun _ => ?_) (fun _ => ?_)
          | with_reducible refine optD_chk ?_ ?_
          | with_reducible refine chkQ_out (by decide) ?_
          | with_reducible refine chkQ_in' (by decide) ?_ ?_
          | with_reducible exact chkQ_end
          | with_reducible refine stab1_eq ?_
          | with_reducible refine optQ_some' ?_
      all_goals (set_option pp.deepTerms true in trace_state)
    · have c1 : difF l (l ++ [⟨[109, 111, 114, 101], ⟨0, []⟩⟩]) = l.length := by have := (difG_more ⟨[109, 111, 114, 101], ⟨0, []⟩⟩ l 0).1; simpa [difF] using this
      have c2 : difF (l ++ [⟨[109, 111, 114, 101], ⟨0, []⟩⟩]) l = l.length := by have := (difG_more ⟨[109, 111, 114, 101], ⟨0, []⟩⟩ l 0).2; simpa [difF] using this
      have hll : (l ++ [(⟨[109, 111, 114, 101], ⟨0, []⟩⟩ : Fld)]).length = l.length + 1 := by simp
      have hl2 : (l ++ [(⟨[109, 111, 114, 101], ⟨0, []⟩⟩ : Fld)]).length ≤ 1048577 := by omega
      have hl1 : l.length ≤ 1048577 := by omega
      have hk2 : ∀ x ∈ l ++ [(⟨[109, 111, 114, 101], ⟨0, []⟩⟩ : Fld)], x.ty.kind ≠ 8 := by
        intro x hx
        rcases List.mem_append.1 hx with hx | hx
        · exact hk x hx
        · simp at hx; subst hx; decide
      repeat' first
          | with_reducible refine condK_split (fun _ => ?_) (fun _ => ?_)
          | with_reducible refine optK_gsplit (fun _ => ?_) (fun _ => ?_)
          | with_reducible refine optD_gsplit (fun _ => ?_) (fun _ => ?_)
          | ((with_reducible refine K_keep ?_ ?_); · rfl)
          | (simp -implicitDefEqProofs (disch := first | omega | assumption) only [K_nil, K_skip, K_seq, K_reg, K_regd, K_cond, K_block, K_loop, K_exit, K_ret, K_onil, K_ocons, K_inil, K_icons, K_bnorm, K_bret, K_bexit, K_cret, K_cexit, optK_some, optD_c, optD_r, condK_t, condK_f, guS_t, guS_f, guardE, stepX, stepOp, callV, evX, Fr.put, Fr.lay, Fr.nm, layE, POp.slot, nextGen, mk_get, mk_set, mk_len, look, keepL, List.mem_cons, List.not_mem_nil, or_false, false_or, true_or, or_true, ↓reduceIte, hget_0, hset_0, getD_0, List.getElem?_cons_zero, List.getElem?_cons_succ, List.set_cons_zero, List.set_cons_succ, List.length_cons, List.length_nil, Option.bind_some, Option.bind_none, id_eq, Nat.reduceEqDiff, Nat.reduceLT, Nat.reduceLeDiff, Nat.reduceAdd, Nat.zero_add, Nat.add_zero, zero_ne_one', one_ne_zero', Nat.succ_ne_self, false_and, and_true, true_and, if_pos, if_neg, ite_self, Option.some.injEq, reduceCtorEq, binI, intOp, shiftOp, maxI, minI, foldO, List.map_cons, List.map_nil, List.nil_append, List.append_nil, List.cons_append, decide_eq_true, decide_eq_false, decide_true, decide_false, int_beq, int_bne, wrap64, Bool.not_true, Bool.not_false, beq_self_eq_true, beq_tf, beq_ft, endQ_ret, endQ_norm, resultsE, mapO, rvE, loadFrom, PV.cells, PV.fits, PV.good, PV.pure, PV.low, PV.lowL, List.head?_cons, List.drop_zero, List.drop_succ_cons, List.take_succ_cons, List.take_zero, splice, List.length_append, lenOf, elems, fillParts, fillElems, dropSl, freshSlot, headSz_nil, headSz_cons, cleanFor, Fl.full, Ob.gen, look_keep, List.isEmpty_cons, List.isEmpty_nil, Nat.sub_zero, Nat.reduceBEq, Int.natCast_add, Int.natCast_one, natbeq_self, Bool.true_or, Bool.false_or, Bool.or_true, Bool.or_false, Bool.true_and, Bool.and_true, Bool.and_self, Bool.or_self, optD_call, eqTop, eqShL, eqSh, eq_self, ← decide_not, not_true_eq_false, not_false_eq_true, Int.reduceAdd, Int.reduceSub, Int.reduceMul, Int.reduceNeg, Int.reduceTMod, Int.reduceTDiv, Int.reduceLT, Int.reduceLE, Int.reduceEq, Int.reduceToNat, Nat.reduceMul, Nat.reduceSub, List.drop_succ_cons, List.drop_nil, flds_same, strs_same, scts_same, funs_same, main_same, k1, k2, k3, flds_len, ef_ok, hk, hl1, hself, flds_self, flds_head, Int.toNat_natCast, flds_push, efA, efB, hll, hk2, hl2, c1, c2, ex_ok, strs_low, flds_low, scts_low, funs_low, h1, h2, stabG, stabS, same_agg, same_ip, same_int, same_bool, same_str, same_vs, same_sl, same_ptr, sameL_nil, sameL_cons])
          | with_reducible refine condK_bsplit (fun _ => ?_) (fun _ => ?_)
          | with_reducible refine optK_bsplit (fun _ => ?_) (fun _ => ?_)
          | with_reducible refine optD_bsplit (fun _ => ?_) (fun _ => ?_)
          | with_reducible refine optD_chk ?_ ?_
          | with_reducible refine chkQ_out (by decide) ?_
          | with_reducible refine chkQ_in' (by decide) ?_ ?_
          | with_reducible exact chkQ_end
          | with_reducible refine stab1_eq ?_
          | with_reducible refine optQ_some' ?_
      all_goals trace_state
end Go.VI.S
