/- Chapter 20: reference, the loop over the arguments. -/
import Derived.Test.YtefikcjiblkmgaaGreatDoorF20zd
import Derived.Test.YtefikcjiblkmgaaGreatDoorF20zc
set_option maxRecDepth 100000
set_option linter.unusedSimpArgs false
set_option linter.unusedVariables false
set_option pp.deepTerms.threshold 4
set_option pp.deepTerms false
namespace Go.VI.S
open Go.VI
theorem tys_all {l : List Ty} : (tys l).take l.length = tys l := List.take_of_length_le (by rw [tys_len]; exact Nat.le_refl _)
theorem tys_app {l : List Ty} {k : Int} {n : Str} : tys l ++ [.agg [.int .i64 k,.str n]] = tys (l ++ [⟨k,n⟩]) := by simp [tys]
set_option maxHeartbeats 2000000 in
theorem rext_loop (m : Mod) (hm : m.Ok) {fs : Fl} (sc : List Fld) (k o x : Int) (nm : Str) (fl : Fl) (as : List Ex) (has : as.length ≤ 1048576) (hrec : ∀ a ∈ as, ∀ h,doCall E (callR E) 12 [.agg m.c,.vs fs (flds sc),.agg a.c] h = some (encR (exprF m sc a),h)) (fin : Except Int (List Ty)) {o2 o4 o5 : Option Ob} {ks : List KI} {Q : PEx → Fr → Prop}
    (hr : ∀ t (acc : List Ty) (g : Nat) (o3 : Option Ob) c,fin = .error c → look t 6 = .ptr (0,0) 1 0 0 → look t 7 = .int .i64 c → kQ E ks Q .ret { lvl := 0,tmps := mk 159 t,heap := [[cell0,some (.mem (tys acc) g true 2),o2,o3,o4,o5]],defers := [] })
    (hn : ∀ t (acc : List Ty) (g : Nat) (o3 : Option Ob),fin = .ok acc → look t 1 = .vs fs (flds sc) → look t 3 = .ip m.c → look t 5 = .ip [.int .i64 k,.int .i64 o,.str nm,.int .i64 x,.vs fl (exs as)] → look t 6 = .ptr (0,0) 1 0 0 → look t 9 = .sl (0,1) g 0 acc.length → kQ E ks Q .norm { lvl := 0,tmps := mk 159 t,heap := [[cell0,some (.mem (tys acc) g true 2),o2,o3,o4,o5]],defers := [] }) :
    ∀ (rest pre : List Ex) (acc : List Ty) (g : Nat) (o3 : Option Ob) (t : List (Nat × PV)),as = pre ++ rest → (appX acc (argsF m sc (takesF m k nm && decide (pre.length = 0)) rest) = fin) → (acc.length = pre.length) →
      look t 1 = .vs fs (flds sc) → look t 3 = .ip m.c → look t 5 = .ip [.int .i64 k,.int .i64 o,.str nm,.int .i64 x,.vs fl (exs as)] → look t 6 = .ptr (0,0) 1 0 0 → look t 9 = .sl (0,1) g 0 acc.length → look t 10 = .int .i64 pre.length →
      kQ E (.code p12l0 :: .blk 0 :: ks) Q .norm { lvl := 0,tmps := mk 159 t,heap := [[cell0,some (.mem (tys acc) g true 2),o2,o3,o4,o5]],defers := [] } := by
  intro rest
  have h1' := m.hm
  have pu12 : pureB E 12 = true := rfl
  induction rest with
  | nil =>
    intro pre acc g o3 t hl hi0 hi1 h1 h3 h5 h6 h9 h10
    have e : as.length = pre.length := by rw [hl]; simp
    refine loopK' (c := p12l0) rfl ?_
    repeat' first | ((with_reducible first | refine cS ?_ ?_ | refine oS ?_ ?_ | refine dS ?_ ?_) <;> intro _) | ((with_reducible refine kk ?_ ?_); · rfl) | (simp -implicitDefEqProofs (disch := first | omega | assumption) only [push_cast,simprocAttr,eqTop,eqShL,eqSh,K_seq,h1,h3,h5,h6,h9,h10,e,h1',Ex.low,Ex.c_len,take5,byn_ok,hm]) | ((with_reducible first | refine cB ?_ ?_ | refine oB ?_ ?_ | refine dB ?_ ?_) <;> intro _)
    exact hn _ acc g _ (by rw [← hi0]; simp [argsF,appX]) (by simp [look,look_keepL,h1]) (by simp [look,look_keepL,h3]) (by simp [look,look_keepL,h5]) (by simp [look,look_keepL,h6]) (by simp [look,look_keepL,h9])
  | cons s r ih =>
    intro pre acc g o3 t hl hi0 hi1 h1 h3 h5 h6 h9 h10
    have e : as.length = pre.length + r.length + 1 := by rw [hl]; simp; omega
    have hg : (exs as)[pre.length]? = some (.agg s.c) := by rw [hl,exs_map]; exact get_at _ _ _ _
    have hq := hrec s (by rw [hl]; simp)
    have hlow := s.low
    have hal : acc.length ≤ 1048576 := by omega
    by_cases hsk : (takesF m k nm && decide (pre.length = 0)) = true
    · have ht : takesF m k nm = true := by simp at hsk; exact hsk.1
      have hp0 : (pre.length : Int) = 0 := by simp at hsk; simp [hsk.2]
      refine loopK' (c := p12l0) rfl ?_
      repeat' first | ((with_reducible first | refine cS ?_ ?_ | refine oS ?_ ?_ | refine dS ?_ ?_) <;> intro _) | ((with_reducible refine kk ?_ ?_); · rfl) | (simp -implicitDefEqProofs (disch := first | omega | assumption) only [push_cast,simprocAttr,eqTop,eqShL,eqSh,K_seq,h1,h3,h5,h6,h9,h10,hg,h1',Ex.low,Ex.c_len,take5,byn_ok,hm,ht,tys_len,tys_all,tys_app]) | ((with_reducible first | refine cB ?_ ?_ | refine oB ?_ ?_ | refine dB ?_ ?_) <;> intro _)
      refine ih (pre ++ [s]) (acc ++ [tz]) _ _ _ (by simp [hl]) (by rw [← hi0,argsF,hsk]; simp [appX_cons]) (by simp [hi1]) (by simp [look,look_keepL,h1]) (by simp [look,look_keepL,h3]) (by simp [look,look_keepL,h5]) (by simp [look,look_keepL,h6]) (by simp [look,look_keepL,h9]) (by simp [look,look_keepL,h10])
    have hsk' : (takesF m k nm && decide (pre.length = 0)) = false := by simpa using hsk
    have ha2 : (takesF m k nm && decide ((pre ++ [s]).length = 0)) = false := by simp
    by_cases h0 : (pre.length : Int) = 0
    · have ht : takesF m k nm = false := by
        have : pre.length = 0 := by omega
        simpa [this] using hsk
      by_cases he : (exprF m sc s).2 = 0
      · have hargs : argsF m sc (takesF m k nm && decide (pre.length = 0)) (s :: r) = consX (exprF m sc s).1 (argsF m sc false r) := by rw [hsk',argsF]; simp [he]
        rcases o3 with _ | ob
        all_goals
          refine loopK' (c := p12l0) rfl ?_
          repeat' first | ((with_reducible first | refine cS ?_ ?_ | refine oS ?_ ?_ | refine dS ?_ ?_) <;> intro _) | ((with_reducible refine kk ?_ ?_); · rfl) | (simp -implicitDefEqProofs (disch := first | omega | assumption) only [push_cast,simprocAttr,eqTop,eqShL,eqSh,K_seq,h1,h3,h5,h6,h9,h10,hg,h1',Ex.low,Ex.c_len,take5,byn_ok,hm,ht,hq,he,tys_len,tys_all,tys_app]) | ((with_reducible first | refine cB ?_ ?_ | refine oB ?_ ?_ | refine dB ?_ ?_) <;> intro _)
          refine ih (pre ++ [s]) (acc ++ [(exprF m sc s).1]) _ _ _ (by simp [hl]) (by rw [← hi0,hargs,appX_cons,ha2]) (by simp [hi1]) (by simp [look,look_keepL,h1]) (by simp [look,look_keepL,h3]) (by simp [look,look_keepL,h5]) (by simp [look,look_keepL,h6]) (by simp [look,look_keepL,h9]) (by simp [look,look_keepL,h10])
      · have hargs : argsF m sc (takesF m k nm && decide (pre.length = 0)) (s :: r) = .error (exprF m sc s).2 := by rw [hsk',argsF]; simp [he]
        rcases o3 with _ | ob
        all_goals
          refine loopK' (c := p12l0) rfl ?_
          repeat' first | ((with_reducible first | refine cS ?_ ?_ | refine oS ?_ ?_ | refine dS ?_ ?_) <;> intro _) | ((with_reducible refine kk ?_ ?_); · rfl) | (simp -implicitDefEqProofs (disch := first | omega | assumption) only [push_cast,simprocAttr,eqTop,eqShL,eqSh,K_seq,h1,h3,h5,h6,h9,h10,hg,h1',Ex.low,Ex.c_len,take5,byn_ok,hm,ht,hq,he]) | ((with_reducible first | refine cB ?_ ?_ | refine oB ?_ ?_ | refine dB ?_ ?_) <;> intro _)
          exact hr _ _ _ _ (exprF m sc s).2 (by rw [← hi0,hargs]; rfl) (by simp [look,look_keepL,h6]) (by simp [look])
    · by_cases he : (exprF m sc s).2 = 0
      · have hargs : argsF m sc (takesF m k nm && decide (pre.length = 0)) (s :: r) = consX (exprF m sc s).1 (argsF m sc false r) := by rw [hsk',argsF]; simp [he]
        rcases o3 with _ | ob
        all_goals
          refine loopK' (c := p12l0) rfl ?_
          repeat' first | ((with_reducible first | refine cS ?_ ?_ | refine oS ?_ ?_ | refine dS ?_ ?_) <;> intro _) | ((with_reducible refine kk ?_ ?_); · rfl) | (simp -implicitDefEqProofs (disch := first | omega | assumption) only [push_cast,simprocAttr,eqTop,eqShL,eqSh,K_seq,h1,h3,h5,h6,h9,h10,hg,h1',Ex.low,Ex.c_len,take5,byn_ok,hm,hq,he,tys_len,tys_all,tys_app]) | ((with_reducible first | refine cB ?_ ?_ | refine oB ?_ ?_ | refine dB ?_ ?_) <;> intro _)
          refine ih (pre ++ [s]) (acc ++ [(exprF m sc s).1]) _ _ _ (by simp [hl]) (by rw [← hi0,hargs,appX_cons,ha2]) (by simp [hi1]) (by simp [look,look_keepL,h1]) (by simp [look,look_keepL,h3]) (by simp [look,look_keepL,h5]) (by simp [look,look_keepL,h6]) (by simp [look,look_keepL,h9]) (by simp [look,look_keepL,h10])
      · have hargs : argsF m sc (takesF m k nm && decide (pre.length = 0)) (s :: r) = .error (exprF m sc s).2 := by rw [hsk',argsF]; simp [he]
        rcases o3 with _ | ob
        all_goals
          refine loopK' (c := p12l0) rfl ?_
          repeat' first | ((with_reducible first | refine cS ?_ ?_ | refine oS ?_ ?_ | refine dS ?_ ?_) <;> intro _) | ((with_reducible refine kk ?_ ?_); · rfl) | (simp -implicitDefEqProofs (disch := first | omega | assumption) only [push_cast,simprocAttr,eqTop,eqShL,eqSh,K_seq,h1,h3,h5,h6,h9,h10,hg,h1',Ex.low,Ex.c_len,take5,byn_ok,hm,hq,he]) | ((with_reducible first | refine cB ?_ ?_ | refine oB ?_ ?_ | refine dB ?_ ?_) <;> intro _)
          exact hr _ _ _ _ (exprF m sc s).2 (by rw [← hi0,hargs]; rfl) (by simp [look,look_keepL,h6]) (by simp [look])
end Go.VI.S
