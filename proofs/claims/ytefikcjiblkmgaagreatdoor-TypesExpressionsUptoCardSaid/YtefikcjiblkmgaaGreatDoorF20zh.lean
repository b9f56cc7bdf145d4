/- Chapter 20: reference, clean fields and statements. -/
import Derived.Test.YtefikcjiblkmgaaGreatDoorF20zd
set_option maxRecDepth 100000
set_option linter.unusedSimpArgs false
set_option linter.unusedVariables false
set_option pp.deepTerms.threshold 4
set_option pp.deepTerms false
namespace Go.VI.S
open Go.VI
def tyB (t : Ty) : Bool := decide (t.kind = 8) || decide (t.name = [])
theorem tyB_cl {t : Ty} (h : tyB t = true) : t.Cl := by
  intro h8
  simpa [tyB,h8] using h
def clFlds : List Fld → Bool
  | [] => true
  | f :: r => tyB f.ty && clFlds r
theorem clFlds_mem : ∀ {l : List Fld},clFlds l = true → ∀ f ∈ l,f.ty.Cl
  | [],_,f,h => by cases h
  | g :: r,h,f,hf => by
    simp [clFlds] at h
    rcases List.mem_cons.1 hf with e | hf
    · rw [e]; exact tyB_cl h.1
    · exact clFlds_mem h.2 f hf
mutual
def St.cl : St → Bool
  | .mk _ _ t _ _ _ _ b _ e => tyB t && (clSts b && clSts e)
def clSts : List St → Bool
  | [] => true
  | s :: r => s.cl && clSts r
end
theorem St.cl_eq (s : St) : s.cl = (tyB s.ty && (clSts s.body && clSts s.els)) := by cases s; simp [St.cl,St.ty,St.body,St.els]
mutual
def St.size : St → Nat
  | .mk _ _ _ _ _ _ _ b _ e => 1 + sizeS b + sizeS e
def sizeS : List St → Nat
  | [] => 0
  | s :: r => s.size + sizeS r
end
theorem St.size_eq (s : St) : s.size = 1 + sizeS s.body + sizeS s.els := by cases s; simp [St.size,St.body,St.els]
theorem sizeS_mem {s : St} : ∀ {l : List St},s ∈ l → s.size ≤ sizeS l
  | [],h => by cases h
  | x :: l,h => by
    rcases List.mem_cons.1 h with rfl | h
    · simp [sizeS]
    · have := sizeS_mem h; simp [sizeS]; omega
theorem sizeS_len : ∀ l : List St,l.length ≤ sizeS l
  | [] => Nat.le_refl _
  | e :: l => by
    have := sizeS_len l
    have : 1 ≤ e.size := by rw [e.size_eq]; omega
    simp [sizeS]; omega
theorem St.c17 (s : St) : s.c = [.int .i64 s.kind,.str s.name,.int .i64 s.ty.kind,.str s.ty.name,.int .i64 s.target.kind,.int .i64 s.target.op,.str s.target.name,.int .i64 s.target.value,.vs s.target.fl (exs s.target.args),.int .i64 s.value.kind,.int .i64 s.value.op,.str s.value.name,.int .i64 s.value.value,.vs s.value.fl (exs s.value.args),.int .i64 s.count,.vs s.fb (sts s.body),.vs s.fe (sts s.els)] := by
  rw [s.c_eq,s.target.c_eq,s.value.c_eq]; rfl
theorem ne8 {b : Bool} {t : Ty} (h : tyB t = b) : (decide (t.kind ≠ 8) && decide (t.name ≠ [])) = !b := by
  rw [← h]; simp [tyB]
theorem cfl_loop {f : Fl} (l : List Fld) (hb : l.length ≤ 1048576) (fin : Bool) {ks : List KI} {Q : PEx → Fr → Prop}
    (hr : ∀ t,fin = false → look t 2 = .bool false → kQ E ks Q .ret { lvl := 0,tmps := mk 26 t,heap := [[]],defers := [] })
    (hn : ∀ t,fin = true → kQ E ks Q .norm { lvl := 0,tmps := mk 26 t,heap := [[]],defers := [] }) :
    ∀ (rest pre : List Fld)  (t : List (Nat × PV)),l = pre ++ rest → (clFlds rest = fin) →
      look t 0 = .vs f (flds l) → look t 3 = .int .i64 pre.length →
      kQ E (.code p48l0 :: .blk 0 :: ks) Q .norm { lvl := 0,tmps := mk 26 t,heap := [[]],defers := [] } := by
  intro rest
  induction rest with
  | nil =>
    intro pre  t hl hi0 h0 h3
    have e : l.length = pre.length := by rw [hl]; simp
    refine loopK' (c := p48l0) rfl ?_
    repeat' first | ((with_reducible first | refine cS ?_ ?_ | refine oS ?_ ?_ | refine dS ?_ ?_) <;> intro _) | ((with_reducible refine kk ?_ ?_); · rfl) | (simp -implicitDefEqProofs (disch := first | omega | assumption) only [push_cast,simprocAttr,eqTop,eqShL,eqSh,K_seq,h0,h3,e,binS,str_beq]) | ((with_reducible first | refine cB ?_ ?_ | refine oB ?_ ?_ | refine dB ?_ ?_) <;> intro _)
    exact hn _ (by rw [← hi0]; rfl)
  | cons s r ih =>
    intro pre  t hl hi0 h0 h3
    have e : l.length = pre.length + r.length + 1 := by rw [hl]; simp; omega
    have hg : (flds l)[pre.length]? = some (.agg [.str s.name,.int .i64 s.ty.kind,.str s.ty.name]) := by rw [hl]; exact get_at _ _ _ _
    by_cases hk : s.ty.kind = 8
    · have hy : tyB s.ty = true := by simp [tyB,hk]
      refine loopK' (c := p48l0) rfl ?_
      repeat' first | ((with_reducible first | refine cS ?_ ?_ | refine oS ?_ ?_ | refine dS ?_ ?_) <;> intro _) | ((with_reducible refine kk ?_ ?_); · rfl) | (simp -implicitDefEqProofs (disch := first | omega | assumption) only [push_cast,simprocAttr,eqTop,eqShL,eqSh,K_seq,h0,h3,hg,binS,str_beq,hk]) | ((with_reducible first | refine cB ?_ ?_ | refine oB ?_ ?_ | refine dB ?_ ?_) <;> intro _)
      refine ih (pre ++ [s])  _ (by simp [hl]) (by rw [← hi0]; simp [clFlds,hy]) (by simp [look,look_keepL,h0]) (by simp [look,look_keepL,h3])
    · by_cases hs : s.ty.name = []
      · have hy : tyB s.ty = true := by simp [tyB,hs]
        refine loopK' (c := p48l0) rfl ?_
        repeat' first | ((with_reducible first | refine cS ?_ ?_ | refine oS ?_ ?_ | refine dS ?_ ?_) <;> intro _) | ((with_reducible refine kk ?_ ?_); · rfl) | (simp -implicitDefEqProofs (disch := first | omega | assumption) only [push_cast,simprocAttr,eqTop,eqShL,eqSh,K_seq,h0,h3,hg,binS,str_beq,hk,hs]) | ((with_reducible first | refine cB ?_ ?_ | refine oB ?_ ?_ | refine dB ?_ ?_) <;> intro _)
        refine ih (pre ++ [s])  _ (by simp [hl]) (by rw [← hi0]; simp [clFlds,hy]) (by simp [look,look_keepL,h0]) (by simp [look,look_keepL,h3])
      · have hy : tyB s.ty = false := by simp [tyB,hk,hs]
        refine loopK' (c := p48l0) rfl ?_
        repeat' first | ((with_reducible first | refine cS ?_ ?_ | refine oS ?_ ?_ | refine dS ?_ ?_) <;> intro _) | ((with_reducible refine kk ?_ ?_); · rfl) | (simp -implicitDefEqProofs (disch := first | omega | assumption) only [push_cast,simprocAttr,eqTop,eqShL,eqSh,K_seq,h0,h3,hg,binS,str_beq,hk,hs]) | ((with_reducible first | refine cB ?_ ?_ | refine oB ?_ ?_ | refine dB ?_ ?_) <;> intro _)
        exact hr _ (by rw [← hi0]; simp [clFlds,hy]) (by simp [look])
theorem cfl_ok (f : Fl) (l : List Fld) (hb : l.length ≤ 1048576) (h : Heap) : doCall E (callR E) 48 [.vs f (flds l)] h = some (.bool (clFlds l),h) := by
  refine call_pure (pf := p48) rfl rfl rfl rfl (by simp [PV.lowL,PV.low,flds_low]) (by simp [PV.low,PV.lowL,flds_low]) ?_ h
  show kQ E _ (endQ [⟨2,none⟩] _) .norm { lvl := 0,tmps := mk 26 [(0,.vs f (flds l))],heap := [[]],defers := [] }
  repeat' first | ((with_reducible first | refine cS ?_ ?_ | refine oS ?_ ?_ | refine dS ?_ ?_) <;> intro _) | ((with_reducible refine kk ?_ ?_); · rfl) | (simp -implicitDefEqProofs (disch := first | omega | assumption) only [push_cast,simprocAttr,eqTop,eqShL,eqSh,K_seq]) | ((with_reducible first | refine cB ?_ ?_ | refine oB ?_ ?_ | refine dB ?_ ?_) <;> intro _)
  refine cfl_loop (f := f) l hb (clFlds l) ?_ ?_ l [] _ rfl rfl (by simp [look,look_keepL]) (by simp [look,look_keepL])
  · intro t hm h2
    rw [hm]
    repeat' first | ((with_reducible first | refine cS ?_ ?_ | refine oS ?_ ?_ | refine dS ?_ ?_) <;> intro _) | ((with_reducible refine kk ?_ ?_); · rfl) | (simp -implicitDefEqProofs (disch := first | omega | assumption) only [push_cast,simprocAttr,eqTop,eqShL,eqSh,K_seq,h2]) | ((with_reducible first | refine cB ?_ ?_ | refine oB ?_ ?_ | refine dB ?_ ?_) <;> intro _)
  · intro t hm
    rw [hm]
    repeat' first | ((with_reducible first | refine cS ?_ ?_ | refine oS ?_ ?_ | refine dS ?_ ?_) <;> intro _) | ((with_reducible refine kk ?_ ?_); · rfl) | (simp -implicitDefEqProofs (disch := first | omega | assumption) only [push_cast,simprocAttr,eqTop,eqShL,eqSh,K_seq]) | ((with_reducible first | refine cB ?_ ?_ | refine oB ?_ ?_ | refine dB ?_ ?_) <;> intro _)
set_option maxHeartbeats 2000000 in
theorem cst_loop {f : Fl} (l : List St) (hb : l.length ≤ 1048576) (fin : Bool) (hrec : ∀ s ∈ l,(∀ h,doCall E (callR E) 49 [.vs s.fb (sts s.body)] h = some (.bool (clSts s.body),h)) ∧ (∀ h,doCall E (callR E) 49 [.vs s.fe (sts s.els)] h = some (.bool (clSts s.els),h))) {ks : List KI} {Q : PEx → Fr → Prop}
    (hr : ∀ t,fin = false → look t 2 = .bool false → kQ E ks Q .ret { lvl := 0,tmps := mk 44 t,heap := [[]],defers := [] })
    (hn : ∀ t,fin = true → kQ E ks Q .norm { lvl := 0,tmps := mk 44 t,heap := [[]],defers := [] }) :
    ∀ (rest pre : List St)  (t : List (Nat × PV)),l = pre ++ rest → (clSts rest = fin) →
      look t 0 = .vs f (sts l) → look t 3 = .int .i64 pre.length →
      kQ E (.code p49l0 :: .blk 0 :: ks) Q .norm { lvl := 0,tmps := mk 44 t,heap := [[]],defers := [] } := by
  intro rest
  induction rest with
  | nil =>
    intro pre  t hl hi0 h0 h3
    have e : l.length = pre.length := by rw [hl]; simp
    refine loopK' (c := p49l0) rfl ?_
    repeat' first | ((with_reducible first | refine cS ?_ ?_ | refine oS ?_ ?_ | refine dS ?_ ?_) <;> intro _) | ((with_reducible refine kk ?_ ?_); · rfl) | (simp -implicitDefEqProofs (disch := first | omega | assumption) only [push_cast,simprocAttr,eqTop,eqShL,eqSh,K_seq,h0,h3,e,sts_len,binS,str_beq]) | ((with_reducible first | refine cB ?_ ?_ | refine oB ?_ ?_ | refine dB ?_ ?_) <;> intro _)
    exact hn _ (by rw [← hi0]; simp [clSts])
  | cons s r ih =>
    intro pre  t hl hi0 h0 h3
    have e : l.length = pre.length + r.length + 1 := by rw [hl]; simp; omega
    have hg : (sts l)[pre.length]? = some (.agg [.int .i64 s.kind,.str s.name,.int .i64 s.ty.kind,.str s.ty.name,.int .i64 s.target.kind,.int .i64 s.target.op,.str s.target.name,.int .i64 s.target.value,.vs s.target.fl (exs s.target.args),.int .i64 s.value.kind,.int .i64 s.value.op,.str s.value.name,.int .i64 s.value.value,.vs s.value.fl (exs s.value.args),.int .i64 s.count,.vs s.fb (sts s.body),.vs s.fe (sts s.els)]) := by rw [hl,sts_map, ← s.c17]; exact get_at _ _ _ _
    obtain ⟨q1,q2⟩ := hrec s (by rw [hl]; simp)
    by_cases hy : s.ty.kind ≠ 8 ∧ s.ty.name ≠ []
    · obtain ⟨hk,hs⟩ := hy
      have hy : tyB s.ty = false := by simp [tyB,hk,hs]
      refine loopK' (c := p49l0) rfl ?_
      repeat' first | ((with_reducible first | refine cS ?_ ?_ | refine oS ?_ ?_ | refine dS ?_ ?_) <;> intro _) | ((with_reducible refine kk ?_ ?_); · rfl) | (simp -implicitDefEqProofs (disch := first | omega | assumption) only [push_cast,simprocAttr,eqTop,eqShL,eqSh,K_seq,h0,h3,hg,sts_len,binS,str_beq,hk,hs]) | ((with_reducible first | refine cB ?_ ?_ | refine oB ?_ ?_ | refine dB ?_ ?_) <;> intro _)
      exact hr _ (by rw [← hi0]; simp [clSts,s.cl_eq,hy]) (by simp [look])
    · have hty : tyB s.ty = true := by
        by_cases h8 : s.ty.kind = 8
        · simp [tyB,h8]
        · have : s.ty.name = [] := by
            apply Classical.byContradiction
            intro hc
            exact hy ⟨h8,hc⟩
          simp [tyB,this]
      by_cases hk : s.ty.kind = 8
      all_goals
        cases b1 : clSts s.body
      all_goals
        cases b2 : clSts s.els
      all_goals
        have hs : s.ty.kind = 8 ∨ s.ty.name = [] := by simpa [tyB] using hty
        rcases hs with hs | hs
      all_goals first
        | (exfalso; exact hk hs)
        | skip
      all_goals
        refine loopK' (c := p49l0) rfl ?_
        repeat' first | ((with_reducible first | refine cS ?_ ?_ | refine oS ?_ ?_ | refine dS ?_ ?_) <;> intro _) | ((with_reducible refine kk ?_ ?_); · rfl) | (simp -implicitDefEqProofs (disch := first | omega | assumption) only [push_cast,simprocAttr,eqTop,eqShL,eqSh,K_seq,h0,h3,hg,sts_len,binS,str_beq,hk,hs,q1,q2,b1,b2,sts_low]) | ((with_reducible first | refine cB ?_ ?_ | refine oB ?_ ?_ | refine dB ?_ ?_) <;> intro _)
      all_goals first
        | exact hr _ (by rw [← hi0]; simp [clSts,s.cl_eq,hty,b1,b2]) (by simp [look])
        | refine ih (pre ++ [s])  _ (by simp [hl]) (by rw [← hi0]; simp [clSts,s.cl_eq,hty,b1,b2]) (by simp [look,look_keepL,h0]) (by simp [look,look_keepL,h3])
theorem cst_ok : ∀ (n : Nat) (l : List St),sizeS l ≤ n → sizeS l ≤ 1048576 → ∀ (f : Fl) (h : Heap),doCall E (callR E) 49 [.vs f (sts l)] h = some (.bool (clSts l),h) := by
  intro n
  induction n with
  | zero =>
    intro l hn hb f h
    have hl : l = [] := List.eq_nil_of_length_eq_zero (by have := sizeS_len l; omega)
    refine call_pure (pf := p49) rfl rfl rfl rfl (by simp [PV.lowL,PV.low,sts_low]) (by simp [PV.low,PV.lowL,sts_low]) ?_ h
    show kQ E _ (endQ [⟨2,none⟩] _) .norm { lvl := 0,tmps := mk 44 [(0,.vs f (sts l))],heap := [[]],defers := [] }
    repeat' first | ((with_reducible first | refine cS ?_ ?_ | refine oS ?_ ?_ | refine dS ?_ ?_) <;> intro _) | ((with_reducible refine kk ?_ ?_); · rfl) | (simp -implicitDefEqProofs (disch := first | omega | assumption) only [push_cast,simprocAttr,eqTop,eqShL,eqSh,K_seq]) | ((with_reducible first | refine cB ?_ ?_ | refine oB ?_ ?_ | refine dB ?_ ?_) <;> intro _)
    refine cst_loop (f := f) l (by rw [hl]; simp) (clSts l) ?_ ?_ ?_ l [] _ rfl rfl (by simp [look,look_keepL]) (by simp [look,look_keepL])
    · intro s hs
      rw [hl] at hs
      cases hs
    · intro t hm h2
      rw [hm]
      repeat' first | ((with_reducible first | refine cS ?_ ?_ | refine oS ?_ ?_ | refine dS ?_ ?_) <;> intro _) | ((with_reducible refine kk ?_ ?_); · rfl) | (simp -implicitDefEqProofs (disch := first | omega | assumption) only [push_cast,simprocAttr,eqTop,eqShL,eqSh,K_seq,h2]) | ((with_reducible first | refine cB ?_ ?_ | refine oB ?_ ?_ | refine dB ?_ ?_) <;> intro _)
    · intro t hm
      rw [hm]
      repeat' first | ((with_reducible first | refine cS ?_ ?_ | refine oS ?_ ?_ | refine dS ?_ ?_) <;> intro _) | ((with_reducible refine kk ?_ ?_); · rfl) | (simp -implicitDefEqProofs (disch := first | omega | assumption) only [push_cast,simprocAttr,eqTop,eqShL,eqSh,K_seq]) | ((with_reducible first | refine cB ?_ ?_ | refine oB ?_ ?_ | refine dB ?_ ?_) <;> intro _)
  | succ n ih =>
    intro l hn hb f h
    have hlen := sizeS_len l
    refine call_pure (pf := p49) rfl rfl rfl rfl (by simp [PV.lowL,PV.low,sts_low]) (by simp [PV.low,PV.lowL,sts_low]) ?_ h
    show kQ E _ (endQ [⟨2,none⟩] _) .norm { lvl := 0,tmps := mk 44 [(0,.vs f (sts l))],heap := [[]],defers := [] }
    repeat' first | ((with_reducible first | refine cS ?_ ?_ | refine oS ?_ ?_ | refine dS ?_ ?_) <;> intro _) | ((with_reducible refine kk ?_ ?_); · rfl) | (simp -implicitDefEqProofs (disch := first | omega | assumption) only [push_cast,simprocAttr,eqTop,eqShL,eqSh,K_seq]) | ((with_reducible first | refine cB ?_ ?_ | refine oB ?_ ?_ | refine dB ?_ ?_) <;> intro _)
    refine cst_loop (f := f) l (by omega) (clSts l) ?_ ?_ ?_ l [] _ rfl rfl (by simp [look,look_keepL]) (by simp [look,look_keepL])
    · intro s hs
      have h1 := sizeS_mem hs
      have h2 := s.size_eq
      exact ⟨fun h => ih _ (by omega) (by omega) _ h,fun h => ih _ (by omega) (by omega) _ h⟩
    · intro t hm h2
      rw [hm]
      repeat' first | ((with_reducible first | refine cS ?_ ?_ | refine oS ?_ ?_ | refine dS ?_ ?_) <;> intro _) | ((with_reducible refine kk ?_ ?_); · rfl) | (simp -implicitDefEqProofs (disch := first | omega | assumption) only [push_cast,simprocAttr,eqTop,eqShL,eqSh,K_seq,h2]) | ((with_reducible first | refine cB ?_ ?_ | refine oB ?_ ?_ | refine dB ?_ ?_) <;> intro _)
    · intro t hm
      rw [hm]
      repeat' first | ((with_reducible first | refine cS ?_ ?_ | refine oS ?_ ?_ | refine dS ?_ ?_) <;> intro _) | ((with_reducible refine kk ?_ ?_); · rfl) | (simp -implicitDefEqProofs (disch := first | omega | assumption) only [push_cast,simprocAttr,eqTop,eqShL,eqSh,K_seq]) | ((with_reducible first | refine cB ?_ ?_ | refine oB ?_ ?_ | refine dB ?_ ?_) <;> intro _)
end Go.VI.S
