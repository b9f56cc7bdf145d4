/- Chapter 20: the law TypesScope, evaluated. -/
import Derived.Test.YtefikcjiblkmgaaGreatDoorF20rc
import Derived.Test.YtefikcjiblkmgaaGreatDoorX20
set_option maxRecDepth 100000
set_option linter.unusedSimpArgs false
set_option linter.unusedVariables false
set_option linter.unusedSectionVars false
set_option pp.deepTerms.threshold 4
set_option pp.deepTerms false
namespace Go.VI.S
open Go.VI
section
variable (m : Mod) (sc : List Fld) (g : Fld) (hg : ∃ f ∈ sc, f.name = g.name)
include hg
theorem lastF_hid (nm : Str) : lastF (g :: sc) nm = lastF sc nm := by
  obtain ⟨f, hf, hn⟩ := hg
  unfold lastF
  rw [List.reverse_cons, List.find?_append]
  cases h : sc.reverse.find? (fun f => decide (f.name = nm)) with
  | some x => rfl
  | none =>
    have h2 := List.find?_eq_none.1 h f (List.mem_reverse.2 hf)
    have h3 : ¬ g.name = nm := by rw [← hn]; simpa using h2
    simp [h3]
theorem fdF_hid (nm : Str) : (0 ≤ fdF (g :: sc) nm) = (0 ≤ fdF sc nm) := by
  obtain ⟨f, hf, hn⟩ := hg
  have a := idxG_mem (fun s : Fld => decide (s.name = nm)) sc 0 (by omega)
  have b := idxG_mem (fun s : Fld => decide (s.name = nm)) (g :: sc) 0 (by omega)
  unfold fdF idxF
  rw [eq_iff_iff, a, b]
  constructor
  · rintro ⟨x, hx, hp⟩
    rcases List.mem_cons.1 hx with rfl | hx
    · exact ⟨f, hf, by rw [hn]; exact hp⟩
    · exact ⟨x, hx, hp⟩
  · rintro ⟨x, hx, hp⟩
    exact ⟨x, List.mem_cons_of_mem _ hx, hp⟩
theorem resF_hid (nm : Str) (as : List Ex) (ts : List Ty) : resourceF m (g :: sc) nm as ts = resourceF m sc nm as ts := by
  unfold resourceF
  cases as with
  | nil => rfl
  | cons a r => simp only [fdF_hid sc g hg]
theorem nodeF_hid (k o : Int) (nm : Str) (x : Int) (as : List Ex) (ts : List Ty) : nodeF m (g :: sc) k o nm x as ts = nodeF m sc k o nm x as ts := by
  have hv : varR m (g :: sc) nm = varR m sc nm := by unfold varR varF; rw [lastF_hid sc g hg]
  have hc : callF m (g :: sc) nm as ts = callF m sc nm as ts := by unfold callF; rw [resF_hid m sc g hg]
  unfold nodeF
  rw [hv, hc]
mutual
theorem exprF_hid : ∀ e : Ex, exprF m (g :: sc) e = exprF m sc e
  | .mk k o nm x fl as => by
    unfold exprF
    rw [argsF_hid as]
    split
    · rfl
    · cases argsF m sc (takesF m k nm) as with
      | error c => rfl
      | ok ts => simp only [nodeF_hid m sc g hg]
theorem argsF_hid : ∀ (l : List Ex) (skip : Bool), argsF m (g :: sc) skip l = argsF m sc skip l
  | [], skip => by unfold argsF; rfl
  | a :: r, skip => by
    unfold argsF
    rw [exprF_hid a, argsF_hid r]
end
end
theorem cons_flds {r : List Fld} {nm tn : Str} {k : Int} : PV.agg [.str nm, .int .i64 k, .str tn] :: flds r = flds (⟨nm, ⟨k, tn⟩⟩ :: r) := rfl
theorem ext_own (m : Mod) (hm : m.Ok) (sc : List Fld) (hsc : sc.length ≤ 1048576) (e : Ex) (he : e.size ≤ 1048576) (g n : Nat) (hn : n = sc.length) (o0 o2 : Option Ob) :
    doCall E (callR E) 11 [.agg m.c, .sl (0, 1) g 0 n, .agg e.c] [[o0, some (.mem (flds sc) g true 3), o2]] = some (encR (exprF m sc e), [[o0, some (.mem (flds sc) g true 3), o2]]) := by
  have h1 := m.hm
  have he2 := e.low
  subst hn
  have ht : (flds sc).take sc.length = flds sc := List.take_of_length_le (by rw [flds_len]; exact Nat.le_refl _)
  refine call_snap (pf := p11) (args' := [.agg m.c, .vs .any (flds sc), .agg e.c]) rfl rfl (by simp [PV.lowL, PV.low, strs_low, flds_low, scts_low, funs_low, h1] <;> rfl) ?_ (by simp [PV.lowL, PV.low, strs_low, flds_low, scts_low, funs_low, h1, he2]) (exprtype_ok _ e (Nat.le_refl _) he m hm .any sc hsc _) rfl
  simp [mapO, snap, PV.low, PV.lowL, strs_low, flds_low, scts_low, funs_low, h1, hget, flds_len, ht, he2]
set_option maxHeartbeats 2000000 in
theorem sco_loop (m : Mod) (hm : m.Ok) {fs : Fl} (sc : List Fld) (hsc : sc.length ≤ 1048575) (ee : Ex) (he : ee.size ≤ 1048576) {ks : List KI} {Q : PEx → Fr → Prop}
    (hn : ∀ t o1 o2, kQ E ks Q .norm { lvl := 0, tmps := mk 56 t, heap := [[some (.mem [.agg [.int .i64 (exprF m sc ee).1.kind, .str (exprF m sc ee).1.name]] 1 false 2), o1, o2]], defers := [] }) :
    ∀ (rest pre : List Fld) (o1 o2 : Option Ob) (t : List (Nat × PV)), sc = pre ++ rest → (True) →
      look t 1 = .vs fs (flds sc) → look t 3 = .ip m.c → look t 5 = .ip ee.c → look t 7 = .ptr (0, 0) 1 0 0 → look t 8 = .int .i64 (exprF m sc ee).2 → look t 9 = .int .i64 pre.length →
      kQ E (.code p6l0 :: .blk 0 :: ks) Q .norm { lvl := 0, tmps := mk 56 t, heap := [[some (.mem [.agg [.int .i64 (exprF m sc ee).1.kind, .str (exprF m sc ee).1.name]] 1 false 2), o1, o2]], defers := [] } := by
  intro rest
  have h1' := m.hm
  have he2 := ee.low
  induction rest with
  | nil =>
    intro pre o1 o2 t hl hi0 h1 h3 h5 h7 h8 h9
    have e : sc.length = pre.length := by rw [hl]; simp
    refine loopK' (c := p6l0) rfl ?_
    repeat' first
        | with_reducible refine condK_split (fun _ => ?_) (fun _ => ?_)
        | with_reducible refine optK_gsplit (fun _ => ?_) (fun _ => ?_)
        | with_reducible refine optD_gsplit (fun _ => ?_) (fun _ => ?_)
        | ((with_reducible refine K_keep ?_ ?_); · rfl)
        | (simp -implicitDefEqProofs (disch := first | omega | assumption) only [push_cast, ↓reduceIte, Nat.reduceEqDiff, Nat.reduceLT, Nat.reduceLeDiff, Nat.reduceAdd, reduceCtorEq, Nat.reduceBEq, ← decide_not, Int.reduceAdd, Int.reduceSub, Int.reduceMul, Int.reduceNeg, Int.reduceTMod, Int.reduceTDiv, Int.reduceLT, Int.reduceLE, Int.reduceEq, Int.reduceToNat, Nat.reduceMul, Nat.reduceSub, eqTop, eqShL, eqSh, K_seq, h1, h3, h5, h7, h8, h9, e, flds_len])
        | with_reducible refine condK_bsplit (fun _ => ?_) (fun _ => ?_)
        | with_reducible refine optK_bsplit (fun _ => ?_) (fun _ => ?_)
        | with_reducible refine optD_bsplit (fun _ => ?_) (fun _ => ?_)
    exact hn _ _ _
  | cons s r ih =>
    intro pre o1 o2 t hl hi0 h1 h3 h5 h7 h8 h9
    have e : sc.length = pre.length + r.length + 1 := by rw [hl]; simp; omega
    have hg : (flds sc)[pre.length]? = some (.agg [.str s.name, .int .i64 s.ty.kind, .str s.ty.name]) := by rw [hl]; exact get_at _ _ _ _
    have hx := exprF_hid m sc ⟨s.name, ⟨8, [104, 105, 100, 100, 101, 110]⟩⟩ ⟨s, by rw [hl]; simp, rfl⟩ ee
    have hcl : (⟨s.name, ⟨8, [104, 105, 100, 100, 101, 110]⟩⟩ :: sc : List Fld).length = sc.length + 1 := rfl
    have hcl2 : (⟨s.name, ⟨8, [104, 105, 100, 100, 101, 110]⟩⟩ :: sc : List Fld).length ≤ 1048576 := by omega
    have hcl3 : 1 + sc.length = (⟨s.name, ⟨8, [104, 105, 100, 100, 101, 110]⟩⟩ :: sc : List Fld).length := by omega
    have hne : (flds sc).isEmpty = false := by rw [hl]; cases pre <;> rfl
    have hcl4 : sc.length + 1 = (⟨s.name, ⟨8, [104, 105, 100, 100, 101, 110]⟩⟩ :: sc : List Fld).length := by omega
    refine loopK' (c := p6l0) rfl ?_
    repeat' first
        | with_reducible refine condK_split (fun _ => ?_) (fun _ => ?_)
        | with_reducible refine optK_gsplit (fun _ => ?_) (fun _ => ?_)
        | with_reducible refine optD_gsplit (fun _ => ?_) (fun _ => ?_)
        | ((with_reducible refine K_keep ?_ ?_); · rfl)
        | (simp -implicitDefEqProofs (disch := first | omega | assumption) only [push_cast, ↓reduceIte, Nat.reduceEqDiff, Nat.reduceLT, Nat.reduceLeDiff, Nat.reduceAdd, reduceCtorEq, Nat.reduceBEq, ← decide_not, Int.reduceAdd, Int.reduceSub, Int.reduceMul, Int.reduceNeg, Int.reduceTMod, Int.reduceTDiv, Int.reduceLT, Int.reduceLE, Int.reduceEq, Int.reduceToNat, Nat.reduceMul, Nat.reduceSub, K_seq, h1, h3, h5, h7, h8, h9, hg, flds_len, Int.toNat_natCast, hne, ty_eq, ty_eta, strs_low, flds_low, scts_low, funs_low, h1', he2, Ex.c_len, take5, cons_flds, ext_own, hm, he, hx, flds_head])
        | with_reducible refine condK_bsplit (fun _ => ?_) (fun _ => ?_)
        | with_reducible refine optK_bsplit (fun _ => ?_) (fun _ => ?_)
        | with_reducible refine optD_bsplit (fun _ => ?_) (fun _ => ?_)
    · refine ih (pre ++ [s]) _ _ _ (by simp [hl]) trivial (by simp [look, look_keepL, h1]) (by simp [look, look_keepL, h3]) (by simp [look, look_keepL, h5]) (by simp [look, look_keepL, h7]) (by simp [look, look_keepL, h8]) (by simp [look, look_keepL, h9])
    · exact hn _ _ _
set_option maxHeartbeats 2000000 in
theorem law6 (m : Mod) (hm : m.Ok) (fs : Fl) (sc : List Fld) (hsc : sc.length ≤ 1048575) (ee : Ex) (he : ee.size ≤ 1048576) (h : Heap) : doCall E (callR E) 6 [.agg m.c, .vs fs (flds sc), .agg ee.c] h = some (.bool true, h) := by
  have h1 := m.hm
  have he2 := ee.low
  have hx := fun h => exprtype_ok _ ee (Nat.le_refl _) he m hm fs sc (by omega) h
  refine call_pure (pf := p6) rfl rfl rfl rfl (by simp [PV.lowL, PV.low, strs_low, flds_low, scts_low, funs_low, h1, he2]) (by simp [PV.low, PV.lowL, strs_low, flds_low, scts_low, funs_low, h1, he2]) ?_ h
  show kQ E _ (endQ [⟨6, none⟩] _) .norm { lvl := 0, tmps := mk 56 [(0, .agg m.c), (1, .vs fs (flds sc)), (2, .agg ee.c)], heap := [[none, none, none]], defers := [] }
  repeat' first
      | with_reducible refine condK_split (fun _ => ?_) (fun _ => ?_)
      | with_reducible refine optK_gsplit (fun _ => ?_) (fun _ => ?_)
      | with_reducible refine optD_gsplit (fun _ => ?_) (fun _ => ?_)
      | ((with_reducible refine K_keep ?_ ?_); · rfl)
      | (simp -implicitDefEqProofs (disch := first | omega | assumption) only [push_cast, ↓reduceIte, Nat.reduceEqDiff, Nat.reduceLT, Nat.reduceLeDiff, Nat.reduceAdd, reduceCtorEq, Nat.reduceBEq, ← decide_not, Int.reduceAdd, Int.reduceSub, Int.reduceMul, Int.reduceNeg, Int.reduceTMod, Int.reduceTDiv, Int.reduceLT, Int.reduceLE, Int.reduceEq, Int.reduceToNat, Nat.reduceMul, Nat.reduceSub, eqTop, eqShL, eqSh, K_seq, hx, strs_low, flds_low, scts_low, funs_low, h1, he2, Ex.c_len, take5])
      | with_reducible refine condK_bsplit (fun _ => ?_) (fun _ => ?_)
      | with_reducible refine optK_bsplit (fun _ => ?_) (fun _ => ?_)
      | with_reducible refine optD_bsplit (fun _ => ?_) (fun _ => ?_)
  with_reducible refine sco_loop m hm (fs := fs) sc hsc ee he ?_ sc [] _ _ _ rfl trivial (by simp [look, look_keepL]) (by simp [look, look_keepL]) (by simp [look, look_keepL]) (by simp [look, look_keepL]) (by simp [look, look_keepL]) (by simp [look, look_keepL])
  intro t o1 o2
  repeat' first
      | with_reducible refine condK_split (fun _ => ?_) (fun _ => ?_)
      | with_reducible refine optK_gsplit (fun _ => ?_) (fun _ => ?_)
      | with_reducible refine optD_gsplit (fun _ => ?_) (fun _ => ?_)
      | ((with_reducible refine K_keep ?_ ?_); · rfl)
      | (simp -implicitDefEqProofs (disch := first | omega | assumption) only [push_cast, ↓reduceIte, Nat.reduceEqDiff, Nat.reduceLT, Nat.reduceLeDiff, Nat.reduceAdd, reduceCtorEq, Nat.reduceBEq, ← decide_not, Int.reduceAdd, Int.reduceSub, Int.reduceMul, Int.reduceNeg, Int.reduceTMod, Int.reduceTDiv, Int.reduceLT, Int.reduceLE, Int.reduceEq, Int.reduceToNat, Nat.reduceMul, Nat.reduceSub, eqTop, eqShL, eqSh, K_seq, ex_ok])
      | with_reducible refine condK_bsplit (fun _ => ?_) (fun _ => ?_)
      | with_reducible refine optK_bsplit (fun _ => ?_) (fun _ => ?_)
      | with_reducible refine optD_bsplit (fun _ => ?_) (fun _ => ?_)
end Go.VI.S
