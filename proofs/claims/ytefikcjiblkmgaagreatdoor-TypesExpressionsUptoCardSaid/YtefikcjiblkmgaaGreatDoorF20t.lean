/- Chapter 20: the reference's variables, members, lists. -/
import Derived.Test.YtefikcjiblkmgaaGreatDoorF20s
set_option maxRecDepth 100000
set_option linter.unusedSimpArgs false
set_option linter.unusedVariables false
set_option pp.deepTerms.threshold 4
set_option pp.deepTerms false
namespace Go.VI.S
open Go.VI
def lastG (nm : Str) : List Fld → Int → Int → Int
  | [],_,at0 => at0
  | f :: r,i,at0 => lastG nm r (i + 1) (if f.name = nm then i else at0)
def lastI (l : List Fld) (nm : Str) : Int := lastG nm l 0 (-1)
theorem rlast_loop {f : Fl} (l : List Fld) (hb : l.length ≤ 1048576) (nm : Str) (fin : Int) {ks : List KI} {Q : PEx → Fr → Prop}
    (hn : ∀ t,look t 5 = .int .i64 fin → kQ E ks Q .norm { lvl := 0,tmps := mk 22 t,heap := [[]],defers := [] }) :
    ∀ (rest pre : List Fld) (at0 : Int) (t : List (Nat × PV)),l = pre ++ rest → (lastG nm rest pre.length at0 = fin) →
      look t 0 = .vs f (flds l) → look t 1 = .str nm → look t 5 = .int .i64 at0 → look t 6 = .int .i64 pre.length →
      kQ E (.code p87l0 :: .blk 0 :: ks) Q .norm { lvl := 0,tmps := mk 22 t,heap := [[]],defers := [] } := by
  intro rest
  induction rest with
  | nil =>
    intro pre at0 t hl hi0 h0 h1 h5 h6
    have e : l.length = pre.length := by rw [hl]; simp
    refine loopK' (c := p87l0) rfl ?_
    repeat' first | ((with_reducible first | refine cS ?_ ?_ | refine oS ?_ ?_ | refine dS ?_ ?_) <;> intro _) | ((with_reducible refine kk ?_ ?_); · rfl) | (simp -implicitDefEqProofs (disch := first | omega | assumption) only [push_cast,simprocAttr,eqTop,eqShL,eqSh,K_seq,h0,h1,h5,h6,e,binS,str_beq]) | ((with_reducible first | refine cB ?_ ?_ | refine oB ?_ ?_ | refine dB ?_ ?_) <;> intro _)
    exact hn _ (by rw [← hi0]; simp [look,look_keepL,h5,lastG])
  | cons s r ih =>
    intro pre at0 t hl hi0 h0 h1 h5 h6
    have e : l.length = pre.length + r.length + 1 := by rw [hl]; simp; omega
    have hg : (flds l)[pre.length]? = some (.agg [.str s.name,.int .i64 s.ty.kind,.str s.ty.name]) := by rw [hl]; exact get_at _ _ _ _
    refine loopK' (c := p87l0) rfl ?_
    repeat' first | ((with_reducible first | refine cS ?_ ?_ | refine oS ?_ ?_ | refine dS ?_ ?_) <;> intro _) | ((with_reducible refine kk ?_ ?_); · rfl) | (simp -implicitDefEqProofs (disch := first | omega | assumption) only [push_cast,simprocAttr,eqTop,eqShL,eqSh,K_seq,h0,h1,h5,h6,hg,binS,str_beq]) | ((with_reducible first | refine cB ?_ ?_ | refine oB ?_ ?_ | refine dB ?_ ?_) <;> intro _)
    · rename_i hp
      refine ih (pre ++ [s]) pre.length _ (by simp [hl]) (by rw [← hi0]; simp [lastG,hp]) (by simp [look,look_keepL,h0]) (by simp [look,look_keepL,h1]) (by simp [look,look_keepL,h5]) (by simp [look,look_keepL,h6])
    · rename_i hp
      refine ih (pre ++ [s]) at0 _ (by simp [hl]) (by rw [← hi0]; simp [lastG,hp]) (by simp [look,look_keepL,h0]) (by simp [look,look_keepL,h1]) (by simp [look,look_keepL,h5]) (by simp [look,look_keepL,h6])
theorem rlast_ok (f : Fl) (l : List Fld) (hb : l.length ≤ 1048576) (nm : Str) (h : Heap) : doCall E (callR E) 87 [.vs f (flds l),.str nm] h = some (.int .i64 (lastI l nm),h) := by
  refine call_pure (pf := p87) rfl rfl rfl rfl (by simp [PV.lowL,PV.low,flds_low]) (by simp [PV.low,PV.lowL,flds_low]) ?_ h
  show kQ E _ (endQ [⟨4,none⟩] _) .norm { lvl := 0,tmps := mk 22 [(0,.vs f (flds l)),(1,.str nm)],heap := [[]],defers := [] }
  repeat' first | ((with_reducible first | refine cS ?_ ?_ | refine oS ?_ ?_ | refine dS ?_ ?_) <;> intro _) | ((with_reducible refine kk ?_ ?_); · rfl) | (simp -implicitDefEqProofs (disch := first | omega | assumption) only [push_cast,simprocAttr,eqTop,eqShL,eqSh,K_seq]) | ((with_reducible first | refine cB ?_ ?_ | refine oB ?_ ?_ | refine dB ?_ ?_) <;> intro _)
  refine rlast_loop (f := f) l hb nm (lastI l nm) ?_ l [] (-1) _ rfl rfl (by simp [look,look_keepL]) (by simp [look,look_keepL]) (by simp [look,look_keepL]) (by simp [look,look_keepL])
  intro t h5
  repeat' first | ((with_reducible first | refine cS ?_ ?_ | refine oS ?_ ?_ | refine dS ?_ ?_) <;> intro _) | ((with_reducible refine kk ?_ ?_); · rfl) | (simp -implicitDefEqProofs (disch := first | omega | assumption) only [push_cast,simprocAttr,eqTop,eqShL,eqSh,K_seq,h5]) | ((with_reducible first | refine cB ?_ ?_ | refine oB ?_ ?_ | refine dB ?_ ?_) <;> intro _)
theorem lastG_spec (nm : Str) : ∀ (r pre : List Fld) (at0 : Int),(at0 = -1 ∧ lastF pre nm = none ∨ ∃ f,0 ≤ at0 ∧ pre[at0.toNat]? = some f ∧ lastF pre nm = some f) →
    (lastG nm r pre.length at0 = -1 ∧ lastF (pre ++ r) nm = none ∨ ∃ f,0 ≤ lastG nm r pre.length at0 ∧ (pre ++ r)[(lastG nm r pre.length at0).toNat]? = some f ∧ lastF (pre ++ r) nm = some f)
  | [],pre,at0,h => by simpa [lastG] using h
  | x :: r,pre,at0,h => by
    have ih := lastG_spec nm r (pre ++ [x]) (if x.name = nm then pre.length else at0)
    have e : ((pre ++ [x]).length : Int) = pre.length + 1 := by simp
    rw [List.append_assoc,e] at ih
    refine ih ?_
    by_cases hx : x.name = nm
    · refine .inr ⟨x, ?_⟩
      rw [if_pos hx]
      refine ⟨by omega,by simp,by simp [lastF,hx]⟩
    · rw [if_neg hx]
      rcases h with ⟨h1,h2⟩ | ⟨f,h1,h2,h3⟩
      · exact .inl ⟨h1,by simpa [lastF,hx] using h2⟩
      · refine .inr ⟨f,h1, ?_,by simpa [lastF,hx] using h3⟩
        have : at0.toNat < pre.length := (List.getElem?_eq_some_iff.1 h2).1
        rw [List.getElem?_append_left this]; exact h2
theorem last_spec (l : List Fld) (nm : Str) : (lastI l nm = -1 ∧ lastF l nm = none) ∨ ∃ f,0 ≤ lastI l nm ∧ l[(lastI l nm).toNat]? = some f ∧ lastF l nm = some f := by
  have := lastG_spec nm l [] (-1) (.inl ⟨rfl,rfl⟩)
  simpa [lastI] using this
theorem last_bd (l : List Fld) (nm : Str) : -1 ≤ lastI l nm ∧ lastI l nm < l.length := by
  rcases last_spec l nm with ⟨h,_⟩ | ⟨f,h0,h1,_⟩
  · omega
  · have := (List.getElem?_eq_some_iff.1 h1).1; omega
set_option maxHeartbeats 1000000 in
theorem rvar_ok (m : Mod) (hm : m.Ok) (fs : Fl) (sc : List Fld) (hsc : sc.length ≤ 1048576) (nm : Str) (h : Heap) : doCall E (callR E) 41 [.agg m.c,.vs fs (flds sc),.str nm] h = some (encV (varF m sc nm),h) := by
  have h1 := m.hm
  have g1 := hm.us
  have g2 := hm.ins
  have g3 := hm.outs
  have p1 := fdF_bd m.us nm
  have p2 := fdF_bd m.ins nm
  have p3 := fdF_bd m.outs nm
  have p0 := last_bd sc nm
  refine call_pure (pf := p41) rfl rfl rfl rfl (by simp [PV.lowL,PV.low,strs_low,flds_low,scts_low,funs_low,h1]) (by simp [PV.low,PV.lowL,strs_low,flds_low,scts_low,funs_low,h1]) ?_ h
  show kQ E _ (endQ [⟨6,some (some 2)⟩,⟨7,none⟩] _) .norm { lvl := 0,tmps := mk 59 [(0,.agg m.c),(1,.vs fs (flds sc)),(2,.str nm)],heap := [[none]],defers := [] }
  rcases last_spec sc nm with ⟨l1,l2⟩ | ⟨f,l0,l1,l2⟩
  · by_cases u : fdF m.us nm < 0
    · have u1 := fd_none u
      by_cases i : fdF m.ins nm < 0
      · have i1 := fd_none i
        by_cases o : fdF m.outs nm < 0
        · have o1 := fd_none o
          repeat' first | ((with_reducible first | refine cS ?_ ?_ | refine oS ?_ ?_ | refine dS ?_ ?_) <;> intro _) | ((with_reducible refine kk ?_ ?_); · rfl) | (simp -implicitDefEqProofs (disch := first | omega | assumption) only [push_cast,simprocAttr,eqTop,eqShL,eqSh,K_seq,rlast_ok,hsc,rfidx_ok,l1,g1,g2,g3,h1]) | ((with_reducible first | refine cB ?_ ?_ | refine oB ?_ ?_ | refine dB ?_ ?_) <;> intro _)
          all_goals simp [varF,l2,u1,i1,o1]
        · obtain ⟨f,o1,o2,o3⟩ := fd_get (l := m.outs) (nm := nm) (by omega)
          repeat' first | ((with_reducible first | refine cS ?_ ?_ | refine oS ?_ ?_ | refine dS ?_ ?_) <;> intro _) | ((with_reducible refine kk ?_ ?_); · rfl) | (simp -implicitDefEqProofs (disch := first | omega | assumption) only [push_cast,simprocAttr,eqTop,eqShL,eqSh,K_seq,rlast_ok,hsc,rfidx_ok,l1,g1,g2,g3,h1,o1]) | ((with_reducible first | refine cB ?_ ?_ | refine oB ?_ ?_ | refine dB ?_ ?_) <;> intro _)
          all_goals simp [varF,l2,u1,i1,o2]
      · obtain ⟨f,i1,i2,i3⟩ := fd_get (l := m.ins) (nm := nm) (by omega)
        repeat' first | ((with_reducible first | refine cS ?_ ?_ | refine oS ?_ ?_ | refine dS ?_ ?_) <;> intro _) | ((with_reducible refine kk ?_ ?_); · rfl) | (simp -implicitDefEqProofs (disch := first | omega | assumption) only [push_cast,simprocAttr,eqTop,eqShL,eqSh,K_seq,rlast_ok,hsc,rfidx_ok,l1,g1,g2,g3,h1,i1]) | ((with_reducible first | refine cB ?_ ?_ | refine oB ?_ ?_ | refine dB ?_ ?_) <;> intro _)
        all_goals simp [varF,l2,u1,i2]
    · obtain ⟨f,u1,u2,u3⟩ := fd_get (l := m.us) (nm := nm) (by omega)
      repeat' first | ((with_reducible first | refine cS ?_ ?_ | refine oS ?_ ?_ | refine dS ?_ ?_) <;> intro _) | ((with_reducible refine kk ?_ ?_); · rfl) | (simp -implicitDefEqProofs (disch := first | omega | assumption) only [push_cast,simprocAttr,eqTop,eqShL,eqSh,K_seq,rlast_ok,hsc,rfidx_ok,l1,g1,g2,g3,h1,u1]) | ((with_reducible first | refine cB ?_ ?_ | refine oB ?_ ?_ | refine dB ?_ ?_) <;> intro _)
      all_goals simp [varF,l2,u2]
  · have hg : (flds sc)[(lastI sc nm).toNat]? = some (.agg [.str f.name,.int .i64 f.ty.kind,.str f.ty.name]) := by simp [flds,l1]
    repeat' first | ((with_reducible first | refine cS ?_ ?_ | refine oS ?_ ?_ | refine dS ?_ ?_) <;> intro _) | ((with_reducible refine kk ?_ ?_); · rfl) | (simp -implicitDefEqProofs (disch := first | omega | assumption) only [push_cast,simprocAttr,eqTop,eqShL,eqSh,K_seq,rlast_ok,hsc,hg,h1]) | ((with_reducible first | refine cB ?_ ?_ | refine oB ?_ ?_ | refine dB ?_ ?_) <;> intro _)
    all_goals simp [varF,l2]
end Go.VI.S
