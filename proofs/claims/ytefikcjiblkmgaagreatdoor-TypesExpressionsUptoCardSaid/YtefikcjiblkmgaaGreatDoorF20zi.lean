/- Chapter 20: reference, Clean. -/
import Derived.Test.YtefikcjiblkmgaaGreatDoorF20zh
set_option maxRecDepth 100000
set_option linter.unusedSimpArgs false
set_option linter.unusedVariables false
set_option pp.deepTerms.threshold 4
set_option pp.deepTerms false
namespace Go.VI.S
open Go.VI
def clScts : List Sct → Bool
  | [] => true
  | s :: r => clFlds s.fs && clScts r
def clFuns : List Fun' → Bool
  | [] => true
  | f :: r => (clFlds f.ps && (tyB f.res && clSts f.bodyS)) && clFuns r
def cleanF (m : Mod) (sc : List Fld) : Bool := clFlds sc && (clFlds m.us && (clFlds m.ins && (clFlds m.outs && (clSts m.mainS && (clScts m.ss && clFuns m.fs)))))
structure Mod.OkS (m : Mod) : Prop where
  mn : sizeS m.mainS ≤ 1048576
  fb : ∀ f ∈ m.fs,sizeS f.bodyS ≤ 1048576
theorem Fun'.v10 (f : Fun') : f.v = .agg [.str f.name,.vs f.fl (flds f.ps),.int .i64 f.res.kind,.str f.res.name,.vs f.fb (sts f.bodyS),.int .i64 f.retE.kind,.int .i64 f.retE.op,.str f.retE.name,.int .i64 f.retE.value,.vs f.retE.fl (exs f.retE.args)] := by
  show PV.agg (_ :: _ :: _ :: _ :: .vs f.fb f.body :: f.ret) = _
  rw [show f.ret = f.retE.c from rfl,f.retE.c_eq]; rfl
theorem cfl1_ok (f : Fl) (t : Ty) (h : Heap) : doCall E (callR E) 48 [.vs f [.agg [.str [],.int .i64 t.kind,.str t.name]]] h = some (.bool (tyB t),h) := by
  have := cfl_ok f [⟨[],t⟩] (by simp) h
  simpa [flds,clFlds] using this
theorem csc_loop (m : Mod) (hm : m.Ok) (fin : Bool) {o0 : Option Ob} {ks : List KI} {Q : PEx → Fr → Prop}
    (hr : ∀ t,fin = false → look t 4 = .bool false → kQ E ks Q .ret { lvl := 0,tmps := mk 80 t,heap := [[o0]],defers := [] })
    (hn : ∀ t,fin = true → look t 2 = .ip m.c → kQ E ks Q .norm { lvl := 0,tmps := mk 80 t,heap := [[o0]],defers := [] }) :
    ∀ (rest pre : List Sct)  (t : List (Nat × PV)),m.ss = pre ++ rest → (clScts rest = fin) →
      look t 2 = .ip m.c → look t 5 = .int .i64 pre.length →
      kQ E (.code p14l0 :: .blk 0 :: ks) Q .norm { lvl := 0,tmps := mk 80 t,heap := [[o0]],defers := [] } := by
  intro rest
  have hss := hm.ss
  have h1' := m.hm
  induction rest with
  | nil =>
    intro pre  t hl hi0 h2 h5
    have e : m.ss.length = pre.length := by rw [hl]; simp
    refine loopK' (c := p14l0) rfl ?_
    repeat' first | ((with_reducible first | refine cS ?_ ?_ | refine oS ?_ ?_ | refine dS ?_ ?_) <;> intro _) | ((with_reducible refine kk ?_ ?_); · rfl) | (simp -implicitDefEqProofs (disch := first | omega | assumption) only [push_cast,simprocAttr,eqTop,eqShL,eqSh,K_seq,h2,h5,e,cfl_ok]) | ((with_reducible first | refine cB ?_ ?_ | refine oB ?_ ?_ | refine dB ?_ ?_) <;> intro _)
    exact hn _ (by rw [← hi0]; rfl) (by simp [look,look_keepL,h2])
  | cons s r ih =>
    intro pre  t hl hi0 h2 h5
    have e : m.ss.length = pre.length + r.length + 1 := by rw [hl]; simp; omega
    have hg : (scts m.ss)[pre.length]? = some (.agg [.str s.name,.vs s.fl (flds s.fs)]) := by rw [hl]; exact get_at _ _ _ _
    have hf : s.fs.length ≤ 1048576 := hm.sf s (by rw [hl]; simp)
    cases b1 : clFlds s.fs
    · refine loopK' (c := p14l0) rfl ?_
      repeat' first | ((with_reducible first | refine cS ?_ ?_ | refine oS ?_ ?_ | refine dS ?_ ?_) <;> intro _) | ((with_reducible refine kk ?_ ?_); · rfl) | (simp -implicitDefEqProofs (disch := first | omega | assumption) only [push_cast,simprocAttr,eqTop,eqShL,eqSh,K_seq,h2,h5,hg,cfl_ok,hf,b1]) | ((with_reducible first | refine cB ?_ ?_ | refine oB ?_ ?_ | refine dB ?_ ?_) <;> intro _)
      exact hr _ (by rw [← hi0]; simp [clScts,b1]) (by simp [look])
    · refine loopK' (c := p14l0) rfl ?_
      repeat' first | ((with_reducible first | refine cS ?_ ?_ | refine oS ?_ ?_ | refine dS ?_ ?_) <;> intro _) | ((with_reducible refine kk ?_ ?_); · rfl) | (simp -implicitDefEqProofs (disch := first | omega | assumption) only [push_cast,simprocAttr,eqTop,eqShL,eqSh,K_seq,h2,h5,hg,cfl_ok,hf,b1]) | ((with_reducible first | refine cB ?_ ?_ | refine oB ?_ ?_ | refine dB ?_ ?_) <;> intro _)
      refine ih (pre ++ [s])  _ (by simp [hl]) (by rw [← hi0]; simp [clScts,b1]) (by simp [look,look_keepL,h2]) (by simp [look,look_keepL,h5])
theorem cff_loop (m : Mod) (hm : m.Ok) (hs : m.OkS) (fin : Bool) {ks : List KI} {Q : PEx → Fr → Prop}
    (hr : ∀ t o0,fin = false → look t 4 = .bool false → kQ E ks Q .ret { lvl := 0,tmps := mk 80 t,heap := [[o0]],defers := [] })
    (hn : ∀ t o0,fin = true → kQ E ks Q .norm { lvl := 0,tmps := mk 80 t,heap := [[o0]],defers := [] }) :
    ∀ (rest pre : List Fun') (o0 : Option Ob) (t : List (Nat × PV)),m.fs = pre ++ rest → (clFuns rest = fin) →
      look t 2 = .ip m.c → look t 6 = .int .i64 pre.length →
      kQ E (.code p14l1 :: .blk 2 :: ks) Q .norm { lvl := 0,tmps := mk 80 t,heap := [[o0]],defers := [] } := by
  intro rest
  have hss := hm.fs
  have h1' := m.hm
  induction rest with
  | nil =>
    intro pre o0 t hl hi0 h2 h6
    have e : m.fs.length = pre.length := by rw [hl]; simp
    refine loopK' (c := p14l1) rfl ?_
    repeat' first | ((with_reducible first | refine cS ?_ ?_ | refine oS ?_ ?_ | refine dS ?_ ?_) <;> intro _) | ((with_reducible refine kk ?_ ?_); · rfl) | (simp -implicitDefEqProofs (disch := first | omega | assumption) only [push_cast,simprocAttr,eqTop,eqShL,eqSh,K_seq,h2,h6,e,cfl_ok,cfl1_ok]) | ((with_reducible first | refine cB ?_ ?_ | refine oB ?_ ?_ | refine dB ?_ ?_) <;> intro _)
    exact hn _ _ (by rw [← hi0]; rfl)
  | cons s r ih =>
    intro pre o0 t hl hi0 h2 h6
    have e : m.fs.length = pre.length + r.length + 1 := by rw [hl]; simp; omega
    have hg : (funs m.fs)[pre.length]? = some (.agg [.str s.name,.vs s.fl (flds s.ps),.int .i64 s.res.kind,.str s.res.name,.vs s.fb (sts s.bodyS),.int .i64 s.retE.kind,.int .i64 s.retE.op,.str s.retE.name,.int .i64 s.retE.value,.vs s.retE.fl (exs s.retE.args)]) := by rw [hl, ← s.v10]; exact get_at _ _ _ _
    have hf : s.ps.length ≤ 1048576 := hm.pf s (by rw [hl]; simp)
    have hb := fun f h => cst_ok _ s.bodyS (Nat.le_refl _) (hs.fb s (by rw [hl]; simp)) f h
    cases b1 : clFlds s.ps
    all_goals cases b2 : tyB s.res
    all_goals cases b3 : clSts s.bodyS
    all_goals
      refine loopK' (c := p14l1) rfl ?_
      repeat' first | ((with_reducible first | refine cS ?_ ?_ | refine oS ?_ ?_ | refine dS ?_ ?_) <;> intro _) | ((with_reducible refine kk ?_ ?_); · rfl) | (simp -implicitDefEqProofs (disch := first | omega | assumption) only [push_cast,simprocAttr,eqTop,eqShL,eqSh,K_seq,h2,h6,hg,cfl_ok,cfl1_ok,hf,hb,b1,b2,b3]) | ((with_reducible first | refine cB ?_ ?_ | refine oB ?_ ?_ | refine dB ?_ ?_) <;> intro _)
    all_goals first
      | exact hr _ _ (by rw [← hi0]; simp [clFuns,b1,b2,b3]) (by simp [look])
      | refine ih (pre ++ [s]) _ _ (by simp [hl]) (by rw [← hi0]; simp [clFuns,b1,b2,b3]) (by simp [look,look_keepL,h2]) (by simp [look,look_keepL,h6])
set_option maxHeartbeats 4000000 in
theorem clean_ok (m : Mod) (hm : m.Ok) (hs : m.OkS) (fs : Fl) (sc : List Fld) (hsc : sc.length ≤ 1048576) (h : Heap) : doCall E (callR E) 14 [.agg m.c,.vs fs (flds sc)] h = some (.bool (cleanF m sc),h) := by
  have h1 := m.hm
  have g1 := hm.us
  have g2 := hm.ins
  have g3 := hm.outs
  have hmn := fun f h => cst_ok _ m.mainS (Nat.le_refl _) hs.mn f h
  have e0 : m.main = sts m.mainS := rfl
  refine call_pure (pf := p14) rfl rfl rfl rfl (by simp [PV.lowL,PV.low,strs_low,flds_low,scts_low,funs_low,h1]) (by simp [PV.low,PV.lowL,strs_low,flds_low,scts_low,funs_low,h1]) ?_ h
  show kQ E _ (endQ [⟨4,none⟩] _) .norm { lvl := 0,tmps := mk 80 [(0,.agg m.c),(1,.vs fs (flds sc))],heap := [[none]],defers := [] }
  by_cases hall : clFlds sc = true ∧ clFlds m.us = true ∧ clFlds m.ins = true ∧ clFlds m.outs = true ∧ clSts m.mainS = true
  · obtain ⟨b1,b2,b3,b4,b5⟩ := hall
    repeat' first | ((with_reducible first | refine cS ?_ ?_ | refine oS ?_ ?_ | refine dS ?_ ?_) <;> intro _) | ((with_reducible refine kk ?_ ?_); · rfl) | (simp -implicitDefEqProofs (disch := first | omega | assumption) only [push_cast,simprocAttr,eqTop,eqShL,eqSh,K_seq,h1,cfl_ok,hsc,g1,g2,g3,hmn,e0,b1,b2,b3,b4,b5]) | ((with_reducible first | refine cB ?_ ?_ | refine oB ?_ ?_ | refine dB ?_ ?_) <;> intro _)
    with_reducible refine csc_loop m hm (clScts m.ss) ?_ ?_ m.ss [] _ rfl rfl (by simp [look,look_keepL]) (by simp [look,look_keepL])
    · intro t hf h4
      repeat' first | ((with_reducible first | refine cS ?_ ?_ | refine oS ?_ ?_ | refine dS ?_ ?_) <;> intro _) | ((with_reducible refine kk ?_ ?_); · rfl) | (simp -implicitDefEqProofs (disch := first | omega | assumption) only [push_cast,simprocAttr,eqTop,eqShL,eqSh,K_seq,h4]) | ((with_reducible first | refine cB ?_ ?_ | refine oB ?_ ?_ | refine dB ?_ ?_) <;> intro _)
      all_goals simp [cleanF,hf]
    · intro t hf h2
      repeat' first | ((with_reducible first | refine cS ?_ ?_ | refine oS ?_ ?_ | refine dS ?_ ?_) <;> intro _) | ((with_reducible refine kk ?_ ?_); · rfl) | (simp -implicitDefEqProofs (disch := first | omega | assumption) only [push_cast,simprocAttr,eqTop,eqShL,eqSh,K_seq,h2]) | ((with_reducible first | refine cB ?_ ?_ | refine oB ?_ ?_ | refine dB ?_ ?_) <;> intro _)
      with_reducible refine cff_loop m hm hs (clFuns m.fs) ?_ ?_ m.fs [] _ _ rfl rfl (by simp [look,look_keepL,h2]) (by simp [look,look_keepL])
      · intro t o0 hf2 h4
        repeat' first | ((with_reducible first | refine cS ?_ ?_ | refine oS ?_ ?_ | refine dS ?_ ?_) <;> intro _) | ((with_reducible refine kk ?_ ?_); · rfl) | (simp -implicitDefEqProofs (disch := first | omega | assumption) only [push_cast,simprocAttr,eqTop,eqShL,eqSh,K_seq,h4]) | ((with_reducible first | refine cB ?_ ?_ | refine oB ?_ ?_ | refine dB ?_ ?_) <;> intro _)
        all_goals simp [cleanF,hf2]
      · intro t o0 hf2
        repeat' first | ((with_reducible first | refine cS ?_ ?_ | refine oS ?_ ?_ | refine dS ?_ ?_) <;> intro _) | ((with_reducible refine kk ?_ ?_); · rfl) | (simp -implicitDefEqProofs (disch := first | omega | assumption) only [push_cast,simprocAttr,eqTop,eqShL,eqSh,K_seq]) | ((with_reducible first | refine cB ?_ ?_ | refine oB ?_ ?_ | refine dB ?_ ?_) <;> intro _)
        all_goals simp [cleanF,b1,b2,b3,b4,b5,hf,hf2]
  · have hc : cleanF m sc = false := by
      cases h : cleanF m sc
      · rfl
      · simp [cleanF] at h
        exact absurd ⟨h.1,h.2.1,h.2.2.1,h.2.2.2.1,h.2.2.2.2.1⟩ hall
    rw [hc]
    cases b1 : clFlds sc
    · repeat' first | ((with_reducible first | refine cS ?_ ?_ | refine oS ?_ ?_ | refine dS ?_ ?_) <;> intro _) | ((with_reducible refine kk ?_ ?_); · rfl) | (simp -implicitDefEqProofs (disch := first | omega | assumption) only [push_cast,simprocAttr,eqTop,eqShL,eqSh,K_seq,h1,cfl_ok,hsc,b1]) | ((with_reducible first | refine cB ?_ ?_ | refine oB ?_ ?_ | refine dB ?_ ?_) <;> intro _)
    cases b2 : clFlds m.us
    · repeat' first | ((with_reducible first | refine cS ?_ ?_ | refine oS ?_ ?_ | refine dS ?_ ?_) <;> intro _) | ((with_reducible refine kk ?_ ?_); · rfl) | (simp -implicitDefEqProofs (disch := first | omega | assumption) only [push_cast,simprocAttr,eqTop,eqShL,eqSh,K_seq,h1,cfl_ok,hsc,g1,b1,b2]) | ((with_reducible first | refine cB ?_ ?_ | refine oB ?_ ?_ | refine dB ?_ ?_) <;> intro _)
    cases b3 : clFlds m.ins
    · repeat' first | ((with_reducible first | refine cS ?_ ?_ | refine oS ?_ ?_ | refine dS ?_ ?_) <;> intro _) | ((with_reducible refine kk ?_ ?_); · rfl) | (simp -implicitDefEqProofs (disch := first | omega | assumption) only [push_cast,simprocAttr,eqTop,eqShL,eqSh,K_seq,h1,cfl_ok,hsc,g1,g2,b1,b2,b3]) | ((with_reducible first | refine cB ?_ ?_ | refine oB ?_ ?_ | refine dB ?_ ?_) <;> intro _)
    cases b4 : clFlds m.outs
    · repeat' first | ((with_reducible first | refine cS ?_ ?_ | refine oS ?_ ?_ | refine dS ?_ ?_) <;> intro _) | ((with_reducible refine kk ?_ ?_); · rfl) | (simp -implicitDefEqProofs (disch := first | omega | assumption) only [push_cast,simprocAttr,eqTop,eqShL,eqSh,K_seq,h1,cfl_ok,hsc,g1,g2,g3,b1,b2,b3,b4]) | ((with_reducible first | refine cB ?_ ?_ | refine oB ?_ ?_ | refine dB ?_ ?_) <;> intro _)
    cases b5 : clSts m.mainS
    · repeat' first | ((with_reducible first | refine cS ?_ ?_ | refine oS ?_ ?_ | refine dS ?_ ?_) <;> intro _) | ((with_reducible refine kk ?_ ?_); · rfl) | (simp -implicitDefEqProofs (disch := first | omega | assumption) only [push_cast,simprocAttr,eqTop,eqShL,eqSh,K_seq,h1,cfl_ok,hsc,g1,g2,g3,hmn,e0,b1,b2,b3,b4,b5]) | ((with_reducible first | refine cB ?_ ?_ | refine oB ?_ ?_ | refine dB ?_ ?_) <;> intro _)
    exact absurd ⟨b1,b2,b3,b4,b5⟩ hall
end Go.VI.S
