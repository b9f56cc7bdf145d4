/- Chapter 20: reference, Known. -/
import Derived.Test.YtefikcjiblkmgaaGreatDoorF20zi
set_option maxRecDepth 100000
set_option linter.unusedSimpArgs false
set_option linter.unusedVariables false
set_option pp.deepTerms.threshold 4
set_option pp.deepTerms false
namespace Go.VI.S
open Go.VI
theorem flds_all {l : List Fld} : (flds l).take l.length = flds l := List.take_of_length_le (by rw [flds_len]; exact Nat.le_refl _)
theorem flds_take2 {a b : List Fld} : (flds (a ++ b)).take (a.length + b.length) = flds (a ++ b) := List.take_of_length_le (by rw [flds_len,List.length_append]; exact Nat.le_refl _)
theorem flds_drop {l : List Fld} : (flds l).drop l.length = [] := List.drop_of_length_le (by rw [flds_len]; exact Nat.le_refl _)
theorem flds_app2 {a b : List Fld} : flds a ++ flds b = flds (a ++ b) := by simp [flds]
theorem flds_app1 {a : List Fld} {k : Int} {n s : Str} : flds a ++ [.agg [.str s,.int .i64 k,.str n]] = flds (a ++ [⟨s,⟨k,n⟩⟩]) := by simp [flds]
theorem flds_hd {l : List Fld} : headSz 3 (flds l) = true := by cases l <;> rfl
def fallF (m : Mod) (sc : List Fld) : List Fld := (((sc ++ m.us) ++ m.ins) ++ m.outs)
def sallF (m : Mod) (sc : List Fld) : List Fld := fallF m sc ++ m.ss.flatMap Sct.fs
def allF (m : Mod) (sc : List Fld) : List Fld := sallF m sc ++ m.fs.flatMap fun f => f.ps ++ [⟨[],f.res⟩]
def knB (t : Ty) : Bool := decide (1 ≤ t.kind) && decide (t.kind ≤ 8)
def knFlds : List Fld → Bool
  | [] => true
  | f :: r => knB f.ty && knFlds r
def knownF (m : Mod) (sc : List Fld) : Bool := knFlds (allF m sc) && cleanF m sc
set_option maxHeartbeats 4000000 in
theorem kst_loop (m : Mod) (hm : m.Ok) {fs : Fl} (sc : List Fld) (fin : List Fld) {o1 o2 o3 o4 o5 o6 : Option Ob} {ks : List KI} {Q : PEx → Fr → Prop}
    (hn : ∀ t (acc : List Fld) (g : Nat),acc = fin → acc.length ≤ 4194304 + m.ss.length * 1048576 → look t 1 = .vs fs (flds sc) → look t 2 = .ip m.c → look t 5 = .sl (0,0) g 0 acc.length → kQ E ks Q .norm { lvl := 0,tmps := mk 84 t,heap := [[some (.mem (flds acc) g true 3),o1,o2,o3,o4,o5,o6]],defers := [] }) :
    ∀ (rest pre : List Sct) (acc : List Fld) (g : Nat) (t : List (Nat × PV)),m.ss = pre ++ rest → (acc ++ rest.flatMap Sct.fs = fin) → (acc.length ≤ 4194304 + pre.length * 1048576) →
      look t 1 = .vs fs (flds sc) → look t 2 = .ip m.c → look t 5 = .sl (0,0) g 0 acc.length → look t 6 = .int .i64 pre.length →
      kQ E (.code p9l0 :: .blk 0 :: ks) Q .norm { lvl := 0,tmps := mk 84 t,heap := [[some (.mem (flds acc) g true 3),o1,o2,o3,o4,o5,o6]],defers := [] } := by
  intro rest
  have hss := hm.ss
  have h1' := m.hm
  induction rest with
  | nil =>
    intro pre acc g t hl hi0 hi1 h1 h2 h5 h6
    have e : m.ss.length = pre.length := by rw [hl]; simp
    refine loopK' (c := p9l0) rfl ?_
    repeat' first | ((with_reducible first | refine cS ?_ ?_ | refine oS ?_ ?_ | refine dS ?_ ?_) <;> intro _) | ((with_reducible refine kk ?_ ?_); · rfl) | (simp -implicitDefEqProofs (disch := first | omega | assumption) only [push_cast,simprocAttr,eqTop,eqShL,eqSh,K_seq,h1,h2,h5,h6,e]) | ((with_reducible first | refine cB ?_ ?_ | refine oB ?_ ?_ | refine dB ?_ ?_) <;> intro _)
    exact hn _ acc g (by rw [← hi0]; simp) (by rw [e]; omega) (by simp [look,look_keepL,h1]) (by simp [look,look_keepL,h2]) (by simp [look,look_keepL,h5])
  | cons s r ih =>
    intro pre acc g t hl hi0 hi1 h1 h2 h5 h6
    have e : m.ss.length = pre.length + r.length + 1 := by rw [hl]; simp; omega
    have hg : (scts m.ss)[pre.length]? = some (.agg [.str s.name,.vs s.fl (flds s.fs)]) := by rw [hl]; exact get_at _ _ _ _
    have hf : s.fs.length ≤ 1048576 := hm.sf s (by rw [hl]; simp)
    have h9 : acc.length ≤ 4194304 + (pre.length + 1) * 1048576 := Nat.le_trans hi1 (Nat.add_le_add_left (Nat.mul_le_mul_right _ (Nat.le_succ _)) _)
    by_cases hz : s.fs = []
    · rw [hz] at hg
      have hz2 : flds ([] : List Fld) = [] := rfl
      refine loopK' (c := p9l0) rfl ?_
      repeat' first | ((with_reducible first | refine cS ?_ ?_ | refine oS ?_ ?_ | refine dS ?_ ?_) <;> intro _) | ((with_reducible refine kk ?_ ?_); · rfl) | (simp -implicitDefEqProofs (disch := first | omega | assumption) only [push_cast,simprocAttr,eqTop,eqShL,eqSh,K_seq,h1,h2,h5,h6,hg,hz2,flds_all,flds_drop]) | ((with_reducible first | refine cB ?_ ?_ | refine oB ?_ ?_ | refine dB ?_ ?_) <;> intro _)
      refine ih (pre ++ [s]) acc g _ ?_ ?_ ?_ ?_ ?_ ?_ ?_
      · simp [hl]
      · rw [← hi0]; simp [hz]
      · rw [List.length_append,List.length_singleton]; exact h9
      all_goals simp [look,look_keepL,h1,h2,h5,h6]
    · have hp : 0 < s.fs.length := List.length_pos_iff.2 hz
      refine loopK' (c := p9l0) rfl ?_
      repeat' first | ((with_reducible first | refine cS ?_ ?_ | refine oS ?_ ?_ | refine dS ?_ ?_) <;> intro _) | ((with_reducible refine kk ?_ ?_); · rfl) | (simp -implicitDefEqProofs (disch := first | omega | assumption) only [push_cast,simprocAttr,eqTop,eqShL,eqSh,K_seq,h1,h2,h5,h6,hg,flds_all,flds_app2,flds_hd]) | ((with_reducible first | refine cB ?_ ?_ | refine oB ?_ ?_ | refine dB ?_ ?_) <;> intro _)
      refine ih (pre ++ [s]) (acc ++ s.fs) _ _ ?_ ?_ ?_ ?_ ?_ ?_ ?_
      · simp [hl]
      · rw [← hi0]; simp
      · simp only [List.length_append,List.length_cons,List.length_nil]; omega
      all_goals simp [look,look_keepL,h1,h2,h5,h6]
set_option maxHeartbeats 4000000 in
theorem kfn_loop (m : Mod) (hm : m.Ok) {fs : Fl} (sc : List Fld) (fin : List Fld) {o1 o2 o3 o4 o5 o6 : Option Ob} {ks : List KI} {Q : PEx → Fr → Prop}
    (hn : ∀ t (acc : List Fld) (g : Nat),acc = fin → acc.length ≤ 1099515822080 + m.fs.length * 1048577 → look t 1 = .vs fs (flds sc) → look t 2 = .ip m.c → look t 5 = .sl (0,0) g 0 acc.length → kQ E ks Q .norm { lvl := 0,tmps := mk 84 t,heap := [[some (.mem (flds acc) g true 3),o1,o2,o3,o4,o5,o6]],defers := [] }) :
    ∀ (rest pre : List Fun') (acc : List Fld) (g : Nat) (t : List (Nat × PV)),m.fs = pre ++ rest → (acc ++ (rest.flatMap fun f => f.ps ++ [⟨[],f.res⟩]) = fin) → (acc.length ≤ 1099515822080 + pre.length * 1048577) →
      look t 1 = .vs fs (flds sc) → look t 2 = .ip m.c → look t 5 = .sl (0,0) g 0 acc.length → look t 7 = .int .i64 pre.length →
      kQ E (.code p9l1 :: .blk 2 :: ks) Q .norm { lvl := 0,tmps := mk 84 t,heap := [[some (.mem (flds acc) g true 3),o1,o2,o3,o4,o5,o6]],defers := [] } := by
  intro rest
  have hss := hm.fs
  have h1' := m.hm
  induction rest with
  | nil =>
    intro pre acc g t hl hi0 hi1 h1 h2 h5 h7
    have e : m.fs.length = pre.length := by rw [hl]; simp
    refine loopK' (c := p9l1) rfl ?_
    repeat' first | ((with_reducible first | refine cS ?_ ?_ | refine oS ?_ ?_ | refine dS ?_ ?_) <;> intro _) | ((with_reducible refine kk ?_ ?_); · rfl) | (simp -implicitDefEqProofs (disch := first | omega | assumption) only [push_cast,simprocAttr,eqTop,eqShL,eqSh,K_seq,h1,h2,h5,h7,e]) | ((with_reducible first | refine cB ?_ ?_ | refine oB ?_ ?_ | refine dB ?_ ?_) <;> intro _)
    exact hn _ acc g (by rw [← hi0]; simp) (by rw [e]; omega) (by simp [look,look_keepL,h1]) (by simp [look,look_keepL,h2]) (by simp [look,look_keepL,h5])
  | cons s r ih =>
    intro pre acc g t hl hi0 hi1 h1 h2 h5 h7
    have e : m.fs.length = pre.length + r.length + 1 := by rw [hl]; simp; omega
    have hg : (funs m.fs)[pre.length]? = some (.agg [.str s.name,.vs s.fl (flds s.ps),.int .i64 s.res.kind,.str s.res.name,.vs s.fb (sts s.bodyS),.int .i64 s.retE.kind,.int .i64 s.retE.op,.str s.retE.name,.int .i64 s.retE.value,.vs s.retE.fl (exs s.retE.args)]) := by rw [hl, ← s.v10]; exact get_at _ _ _ _
    have hf : s.ps.length ≤ 1048576 := hm.pf s (by rw [hl]; simp)
    by_cases hz : s.ps = []
    · rw [hz] at hg
      have hz2 : flds ([] : List Fld) = [] := rfl
      refine loopK' (c := p9l1) rfl ?_
      repeat' first | ((with_reducible first | refine cS ?_ ?_ | refine oS ?_ ?_ | refine dS ?_ ?_) <;> intro _) | ((with_reducible refine kk ?_ ?_); · rfl) | (simp -implicitDefEqProofs (disch := first | omega | assumption) only [push_cast,simprocAttr,eqTop,eqShL,eqSh,K_seq,h1,h2,h5,h7,hg,hz2,flds_all,flds_drop,flds_app1,main_same,funs_same,sts_same,exs_same,flds_same,stabG,stabS,same_agg,same_ip,same_int,same_bool,same_str,same_vs,same_sl,same_ptr,sameL_nil,sameL_cons]) | ((with_reducible first | refine cB ?_ ?_ | refine oB ?_ ?_ | refine dB ?_ ?_) <;> intro _) | with_reducible refine optD_chk ?_ ?_ | with_reducible refine chkQ_out (by decide) ?_ | with_reducible refine chkQ_in' (by decide) ?_ ?_ | with_reducible exact chkQ_end | with_reducible refine stab1_eq ?_ | with_reducible refine optQ_some' ?_
      refine ih (pre ++ [s]) (acc ++ [(⟨[],s.res⟩ : Fld)]) _ _ ?_ ?_ ?_ ?_ ?_ ?_ ?_
      · simp [hl]
      · rw [← hi0]; simp [hz]
      · simp only [List.length_append,List.length_cons,List.length_nil]; omega
      all_goals simp [look,look_keepL,h1,h2,h5,h7,Nat.add_assoc]
    · have hp : 0 < s.ps.length := List.length_pos_iff.2 hz
      refine loopK' (c := p9l1) rfl ?_
      repeat' first | ((with_reducible first | refine cS ?_ ?_ | refine oS ?_ ?_ | refine dS ?_ ?_) <;> intro _) | ((with_reducible refine kk ?_ ?_); · rfl) | (simp -implicitDefEqProofs (disch := first | omega | assumption) only [push_cast,simprocAttr,eqTop,eqShL,eqSh,K_seq,h1,h2,h5,h7,hg,flds_all,flds_take2,flds_app2,flds_app1,flds_hd,main_same,funs_same,sts_same,exs_same,flds_same,stabG,stabS,same_agg,same_ip,same_int,same_bool,same_str,same_vs,same_sl,same_ptr,sameL_nil,sameL_cons]) | ((with_reducible first | refine cB ?_ ?_ | refine oB ?_ ?_ | refine dB ?_ ?_) <;> intro _) | with_reducible refine optD_chk ?_ ?_ | with_reducible refine chkQ_out (by decide) ?_ | with_reducible refine chkQ_in' (by decide) ?_ ?_ | with_reducible exact chkQ_end | with_reducible refine stab1_eq ?_ | with_reducible refine optQ_some' ?_
      refine ih (pre ++ [s]) ((acc ++ s.ps) ++ [(⟨[],s.res⟩ : Fld)]) _ _ ?_ ?_ ?_ ?_ ?_ ?_ ?_
      · simp [hl]
      · rw [← hi0]; simp
      · simp only [List.length_append,List.length_cons,List.length_nil]; omega
      all_goals simp [look,look_keepL,h1,h2,h5,h7,Nat.add_assoc]
theorem kkd_loop (m : Mod) {fs : Fl} (sc : List Fld) (all : List Fld) (hb : all.length ≤ 4398046511104) (g : Nat) (fin : Bool) {o1 o2 o3 o4 o5 o6 : Option Ob} {ks : List KI} {Q : PEx → Fr → Prop}
    (hr : ∀ t,fin = false → look t 4 = .bool false → kQ E ks Q .ret { lvl := 0,tmps := mk 84 t,heap := [[some (.mem (flds all) g true 3),o1,o2,o3,o4,o5,o6]],defers := [] })
    (hn : ∀ t,fin = true → look t 1 = .vs fs (flds sc) → look t 2 = .ip m.c → kQ E ks Q .norm { lvl := 0,tmps := mk 84 t,heap := [[some (.mem (flds all) g true 3),o1,o2,o3,o4,o5,o6]],defers := [] }) :
    ∀ (rest pre : List Fld)  (t : List (Nat × PV)),all = pre ++ rest → (knFlds rest = fin) →
      look t 1 = .vs fs (flds sc) → look t 2 = .ip m.c → look t 5 = .sl (0,0) g 0 all.length → look t 8 = .int .i64 pre.length →
      kQ E (.code p9l2 :: .blk 4 :: ks) Q .norm { lvl := 0,tmps := mk 84 t,heap := [[some (.mem (flds all) g true 3),o1,o2,o3,o4,o5,o6]],defers := [] } := by
  intro rest
  induction rest with
  | nil =>
    intro pre  t hl hi0 h1 h2 h5 h8
    have e : all.length = pre.length := by rw [hl]; simp
    refine loopK' (c := p9l2) rfl ?_
    repeat' first | ((with_reducible first | refine cS ?_ ?_ | refine oS ?_ ?_ | refine dS ?_ ?_) <;> intro _) | ((with_reducible refine kk ?_ ?_); · rfl) | (simp -implicitDefEqProofs (disch := first | omega | assumption) only [push_cast,simprocAttr,eqTop,eqShL,eqSh,K_seq,h1,h2,h5,h8,e]) | ((with_reducible first | refine cB ?_ ?_ | refine oB ?_ ?_ | refine dB ?_ ?_) <;> intro _)
    exact hn _ (by rw [← hi0]; rfl) (by simp [look,look_keepL,h1]) (by simp [look,look_keepL,h2])
  | cons s r ih =>
    intro pre  t hl hi0 h1 h2 h5 h8
    have e : all.length = pre.length + r.length + 1 := by rw [hl]; simp; omega
    have hg : (flds all)[pre.length]? = some (.agg [.str s.name,.int .i64 s.ty.kind,.str s.ty.name]) := by rw [hl]; exact get_at _ _ _ _
    by_cases hlo : s.ty.kind < 1
    · refine loopK' (c := p9l2) rfl ?_
      repeat' first | ((with_reducible first | refine cS ?_ ?_ | refine oS ?_ ?_ | refine dS ?_ ?_) <;> intro _) | ((with_reducible refine kk ?_ ?_); · rfl) | (simp -implicitDefEqProofs (disch := first | omega | assumption) only [push_cast,simprocAttr,eqTop,eqShL,eqSh,K_seq,h1,h2,h5,h8,hg,hlo]) | ((with_reducible first | refine cB ?_ ?_ | refine oB ?_ ?_ | refine dB ?_ ?_) <;> intro _)
      have hk : knB s.ty = false := by simp [knB]; omega
      exact hr _ (by rw [← hi0]; simp [knFlds,hk]) (by simp [look])
    · by_cases hhi : s.ty.kind > 8
      · refine loopK' (c := p9l2) rfl ?_
        repeat' first | ((with_reducible first | refine cS ?_ ?_ | refine oS ?_ ?_ | refine dS ?_ ?_) <;> intro _) | ((with_reducible refine kk ?_ ?_); · rfl) | (simp -implicitDefEqProofs (disch := first | omega | assumption) only [push_cast,simprocAttr,eqTop,eqShL,eqSh,K_seq,h1,h2,h5,h8,hg,hlo,hhi]) | ((with_reducible first | refine cB ?_ ?_ | refine oB ?_ ?_ | refine dB ?_ ?_) <;> intro _)
        have hk : knB s.ty = false := by simp [knB]; omega
        exact hr _ (by rw [← hi0]; simp [knFlds,hk]) (by simp [look])
      · have hk : knB s.ty = true := by simp [knB]; omega
        refine loopK' (c := p9l2) rfl ?_
        repeat' first | ((with_reducible first | refine cS ?_ ?_ | refine oS ?_ ?_ | refine dS ?_ ?_) <;> intro _) | ((with_reducible refine kk ?_ ?_); · rfl) | (simp -implicitDefEqProofs (disch := first | omega | assumption) only [push_cast,simprocAttr,eqTop,eqShL,eqSh,K_seq,h1,h2,h5,h8,hg,hlo,hhi]) | ((with_reducible first | refine cB ?_ ?_ | refine oB ?_ ?_ | refine dB ?_ ?_) <;> intro _)
        refine ih (pre ++ [s])  _ (by simp [hl]) (by rw [← hi0]; simp [knFlds,hk]) (by simp [look,look_keepL,h1]) (by simp [look,look_keepL,h2]) (by simp [look,look_keepL,h5]) (by simp [look,look_keepL,h8])
end Go.VI.S
