/- Chapter 20: calls; expressions whose arguments have types. -/
import Derived.Test.YtefikcjiblkmgaaGreatDoorF20qb
set_option maxRecDepth 100000
set_option linter.unusedSimpArgs false
set_option linter.unusedVariables false
set_option pp.deepTerms.threshold 4
set_option pp.deepTerms false
namespace Go.VI.S
open Go.VI
theorem idxG_mem {α : Type} (p : α → Bool) : ∀ (l : List α) (i : Int), 0 ≤ i → (0 ≤ idxG p l i ↔ ∃ a ∈ l, p a = true)
  | [], i, h => by simp [idxG]
  | a :: r, i, h => by
    have ih := idxG_mem p r (i + 1) (by omega)
    unfold idxG
    by_cases hp : p a = true
    · simp [hp, h]
    · simp [hp, ih]
theorem sidx_mem {l : List Str} {nm : Str} : (sidxF l nm ≥ 0) = (nm ∈ l) := by
  have := idxG_mem (fun s => decide (nm = s)) l 0 (by omega)
  simp only [ge_iff_le, eq_iff_iff]
  unfold sidxF idxF
  rw [this]
  simp
theorem blt_nine {nm : Str} (h : bltF nm = true) (hr : nm ∉ resNames) : nm ∈ nineL := by
  simp only [bltF, sidx_mem, decide_eq_true_eq] at h
  simp [builtinsL, resNames, nineL] at h hr ⊢
  rcases h with h | h | h | h | h | h | h | h | h | h | h | h | h | h <;> simp [h] at hr ⊢
theorem fun_get {m : Mod} {j : Int} (h0 : 0 ≤ j) (h1 : j < m.fs.length) : ∃ f : Fun', f ∈ m.fs ∧ m.fs[j.toNat]? = some f ∧ (funs m.fs)[j.toNat]? = some (.agg (.str f.name :: .vs f.fl (flds f.ps) :: .int .i64 f.res.kind :: .str f.res.name :: .vs f.fb f.body :: f.ret)) := by
  have : j.toNat < m.fs.length := by omega
  exact ⟨m.fs[j.toNat], List.getElem_mem _, by simp [this], by simp [funs, this]⟩
theorem fnF_bd (m : Mod) (nm : Str) : -1 ≤ fnF m nm ∧ fnF m nm < m.fs.length := ⟨(idxF_bd _ _).1, (idxF_bd _ _).2.1⟩
set_option maxHeartbeats 4000000 in
theorem call_ok (m : Mod) (hm : m.Ok) (fs : Fl) (sc : List Fld) (hsc : sc.length ≤ 1048576) (o x : Int) (nm : Str) (fl : Fl) (as : List Ex) (ft : Fl) (ts : List Ty) (hl : ts.length = as.length) (hb : ts.length ≤ 1048576) (h : Heap) :
    doCall E (callR E) 85 [.agg m.c, .vs fs (flds sc), .agg [.int .i64 7, .int .i64 o, .str nm, .int .i64 x, .vs fl (exs as)], .vs ft (tys ts)] h = some (encR (callF m sc nm as ts), h) := by
  have h1 := m.hm
  have hw := wordF_bd nm
  have hs := stF_bd m nm
  have hf := fnF_bd m nm
  refine call_pure (pf := p85) rfl rfl rfl rfl (by simp [PV.lowL, PV.low, strs_low, flds_low, scts_low, funs_low, h1, exs_low, tys_low]) (by simp [PV.low, PV.lowL, strs_low, flds_low, scts_low, funs_low, h1, exs_low, tys_low]) ?_ h
  show kQ E _ (endQ [⟨8, some (some 2)⟩, ⟨9, none⟩] _) .norm { lvl := 0, tmps := mk 85 [(0, .agg m.c), (1, .vs fs (flds sc)), (2, .agg [.int .i64 7, .int .i64 o, .str nm, .int .i64 x, .vs fl (exs as)]), (3, .vs ft (tys ts))], heap := [[none]], defers := [] }
  by_cases w : 0 < wordF nm
  · repeat' first
        | with_reducible refine condK_split (fun _ => ?_) (fun _ => ?_)
        | with_reducible refine optK_gsplit (fun _ => ?_) (fun _ => ?_)
        | with_reducible refine optD_gsplit (fun _ => ?_) (fun _ => ?_)
        | ((with_reducible refine K_keep ?_ ?_); · rfl)
        | (simp -implicitDefEqProofs (disch := first | omega | assumption) only [push_cast, ↓reduceIte, Nat.reduceEqDiff, Nat.reduceLT, Nat.reduceLeDiff, Nat.reduceAdd, reduceCtorEq, Nat.reduceBEq, ← decide_not, Int.reduceAdd, Int.reduceSub, Int.reduceMul, Int.reduceNeg, Int.reduceTMod, Int.reduceTDiv, Int.reduceLT, Int.reduceLE, Int.reduceEq, Int.reduceToNat, Nat.reduceMul, Nat.reduceSub, eqTop, eqShL, eqSh, K_seq, strs_low, flds_low, scts_low, funs_low, h1, exs_low, tys_low, word_ok, construct_ok, hm])
        | with_reducible refine condK_bsplit (fun _ => ?_) (fun _ => ?_)
        | with_reducible refine optK_bsplit (fun _ => ?_) (fun _ => ?_)
        | with_reducible refine optD_bsplit (fun _ => ?_) (fun _ => ?_)
    all_goals simp [callF, w]
  by_cases s : 0 ≤ stF m nm
  · obtain ⟨t, hmem, hg, hfs⟩ := scts_get (m := m) (j := stF m nm) s hs.2
    have hsl := hm.sf t hmem
    have hmt := fun h => match_ok ft t.fl ts t.fs ⟨8, nm⟩ hsl hb h
    repeat' first
        | with_reducible refine condK_split (fun _ => ?_) (fun _ => ?_)
        | with_reducible refine optK_gsplit (fun _ => ?_) (fun _ => ?_)
        | with_reducible refine optD_gsplit (fun _ => ?_) (fun _ => ?_)
        | ((with_reducible refine K_keep ?_ ?_); · rfl)
        | (simp -implicitDefEqProofs (disch := first | omega | assumption) only [push_cast, ↓reduceIte, Nat.reduceEqDiff, Nat.reduceLT, Nat.reduceLeDiff, Nat.reduceAdd, reduceCtorEq, Nat.reduceBEq, ← decide_not, Int.reduceAdd, Int.reduceSub, Int.reduceMul, Int.reduceNeg, Int.reduceTMod, Int.reduceTDiv, Int.reduceLT, Int.reduceLE, Int.reduceEq, Int.reduceToNat, Nat.reduceMul, Nat.reduceSub, eqTop, eqShL, eqSh, K_seq, strs_low, flds_low, scts_low, funs_low, h1, exs_low, tys_low, word_ok, find_ok, hm, hg, hmt, w, s])
        | with_reducible refine condK_bsplit (fun _ => ?_) (fun _ => ?_)
        | with_reducible refine optK_bsplit (fun _ => ?_) (fun _ => ?_)
        | with_reducible refine optD_bsplit (fun _ => ?_) (fun _ => ?_)
    all_goals simp [callF, w, s, hfs]
  by_cases r : nm ∈ resNames
  · have ht : takesF m 7 nm = true := by simp [takesF, r]; omega
    repeat' first
        | with_reducible refine condK_split (fun _ => ?_) (fun _ => ?_)
        | with_reducible refine optK_gsplit (fun _ => ?_) (fun _ => ?_)
        | with_reducible refine optD_gsplit (fun _ => ?_) (fun _ => ?_)
        | ((with_reducible refine K_keep ?_ ?_); · rfl)
        | (simp -implicitDefEqProofs (disch := first | omega | assumption) only [push_cast, ↓reduceIte, Nat.reduceEqDiff, Nat.reduceLT, Nat.reduceLeDiff, Nat.reduceAdd, reduceCtorEq, Nat.reduceBEq, ← decide_not, Int.reduceAdd, Int.reduceSub, Int.reduceMul, Int.reduceNeg, Int.reduceTMod, Int.reduceTDiv, Int.reduceLT, Int.reduceLE, Int.reduceEq, Int.reduceToNat, Nat.reduceMul, Nat.reduceSub, eqTop, eqShL, eqSh, K_seq, strs_low, flds_low, scts_low, funs_low, h1, exs_low, tys_low, word_ok, find_ok, takes_ok, hm, w, s, ht, resource_ok, r])
        | with_reducible refine condK_bsplit (fun _ => ?_) (fun _ => ?_)
        | with_reducible refine optK_bsplit (fun _ => ?_) (fun _ => ?_)
        | with_reducible refine optD_bsplit (fun _ => ?_) (fun _ => ?_)
    all_goals simp [callF, w, s, r]
  have ht : takesF m 7 nm = false := by simp [takesF, r]
  by_cases b : bltF nm = true
  · have hn := blt_nine b r
    repeat' first
        | with_reducible refine condK_split (fun _ => ?_) (fun _ => ?_)
        | with_reducible refine optK_gsplit (fun _ => ?_) (fun _ => ?_)
        | with_reducible refine optD_gsplit (fun _ => ?_) (fun _ => ?_)
        | ((with_reducible refine K_keep ?_ ?_); · rfl)
        | (simp -implicitDefEqProofs (disch := first | omega | assumption) only [push_cast, ↓reduceIte, Nat.reduceEqDiff, Nat.reduceLT, Nat.reduceLeDiff, Nat.reduceAdd, reduceCtorEq, Nat.reduceBEq, ← decide_not, Int.reduceAdd, Int.reduceSub, Int.reduceMul, Int.reduceNeg, Int.reduceTMod, Int.reduceTDiv, Int.reduceLT, Int.reduceLE, Int.reduceEq, Int.reduceToNat, Nat.reduceMul, Nat.reduceSub, eqTop, eqShL, eqSh, K_seq, strs_low, flds_low, scts_low, funs_low, h1, exs_low, tys_low, word_ok, find_ok, takes_ok, hm, w, s, ht, blt_ok, b, bltin_ok])
        | with_reducible refine condK_bsplit (fun _ => ?_) (fun _ => ?_)
        | with_reducible refine optK_bsplit (fun _ => ?_) (fun _ => ?_)
        | with_reducible refine optD_bsplit (fun _ => ?_) (fun _ => ?_)
    all_goals simp [callF, w, s, r, b]
  have b' : bltF nm = false := by simpa using b
  by_cases f : 0 ≤ fnF m nm
  · obtain ⟨g, hmem, hg0, hg⟩ := fun_get (m := m) (j := fnF m nm) f hf.2
    have hpl := hm.pf g hmem
    have hrl := g.hl
    have hmt := fun h => match_ok ft g.fl ts g.ps g.res hpl hb h
    repeat' first
        | with_reducible refine condK_split (fun _ => ?_) (fun _ => ?_)
        | with_reducible refine optK_gsplit (fun _ => ?_) (fun _ => ?_)
        | with_reducible refine optD_gsplit (fun _ => ?_) (fun _ => ?_)
        | ((with_reducible refine K_keep ?_ ?_); · rfl)
        | (simp -implicitDefEqProofs (disch := first | omega | assumption) only [push_cast, ↓reduceIte, Nat.reduceEqDiff, Nat.reduceLT, Nat.reduceLeDiff, Nat.reduceAdd, reduceCtorEq, Nat.reduceBEq, ← decide_not, Int.reduceAdd, Int.reduceSub, Int.reduceMul, Int.reduceNeg, Int.reduceTMod, Int.reduceTDiv, Int.reduceLT, Int.reduceLE, Int.reduceEq, Int.reduceToNat, Nat.reduceMul, Nat.reduceSub, eqTop, eqShL, eqSh, K_seq, strs_low, flds_low, scts_low, funs_low, h1, exs_low, tys_low, word_ok, find_ok, findf_ok, takes_ok, hm, w, s, ht, blt_ok, b', f, hg, hrl, hmt])
        | with_reducible refine condK_bsplit (fun _ => ?_) (fun _ => ?_)
        | with_reducible refine optK_bsplit (fun _ => ?_) (fun _ => ?_)
        | with_reducible refine optD_bsplit (fun _ => ?_) (fun _ => ?_)
    all_goals simp [callF, w, s, r, b', f, hg0]
  · repeat' first
        | with_reducible refine condK_split (fun _ => ?_) (fun _ => ?_)
        | with_reducible refine optK_gsplit (fun _ => ?_) (fun _ => ?_)
        | with_reducible refine optD_gsplit (fun _ => ?_) (fun _ => ?_)
        | ((with_reducible refine K_keep ?_ ?_); · rfl)
        | (simp -implicitDefEqProofs (disch := first | omega | assumption) only [push_cast, ↓reduceIte, Nat.reduceEqDiff, Nat.reduceLT, Nat.reduceLeDiff, Nat.reduceAdd, reduceCtorEq, Nat.reduceBEq, ← decide_not, Int.reduceAdd, Int.reduceSub, Int.reduceMul, Int.reduceNeg, Int.reduceTMod, Int.reduceTDiv, Int.reduceLT, Int.reduceLE, Int.reduceEq, Int.reduceToNat, Nat.reduceMul, Nat.reduceSub, eqTop, eqShL, eqSh, K_seq, strs_low, flds_low, scts_low, funs_low, h1, exs_low, tys_low, word_ok, find_ok, findf_ok, takes_ok, hm, w, s, ht, blt_ok, b', f])
        | with_reducible refine condK_bsplit (fun _ => ?_) (fun _ => ?_)
        | with_reducible refine optK_bsplit (fun _ => ?_) (fun _ => ?_)
        | with_reducible refine optD_bsplit (fun _ => ?_) (fun _ => ?_)
    all_goals simp [callF, w, s, r, b', f]
end Go.VI.S
