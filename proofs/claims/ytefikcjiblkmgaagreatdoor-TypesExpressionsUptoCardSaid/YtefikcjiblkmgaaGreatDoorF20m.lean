/- Chapter 20: the type of a variable. -/
import Derived.Test.YtefikcjiblkmgaaGreatDoorF20l
import Derived.Test.YtefikcjiblkmgaaGreatDoorVC
set_option maxRecDepth 100000
set_option linter.unusedSimpArgs false
set_option linter.unusedVariables false
set_option pp.deepTerms.threshold 4
set_option pp.deepTerms false
namespace Go.VI.S
open Go.VI
abbrev cell0 : Option Ob := some (.mem [.agg [.int .i64 0,.str []]] 1 false 2)
section
variable (nm : Str) (l : List (Nat × PV)) (G : Nat) 
def vLoop (l : List (Nat × PV)) (j : Option PEx) (G : Nat) : Ob := .loop (mk 47 l) [15,16] p80ra0 p80rb0 j G
def vHeap (l : List (Nat × PV)) (G : Nat)  : Heap := [[some (.mem [.agg [.int .i64 0,.str []]] 1 false 2),some (.mem [.bool false] 1 false 1),some (vLoop l none G),none],[]]
def vHeap' (l : List (Nat × PV)) (G : Nat)  (f : Fld) : Heap := [[some (.mem [.agg [.int .i64 f.ty.kind,.str f.ty.name]] 1 false 2),some (.mem [.bool true] 1 false 1),some (vLoop l (some .ret) G),none],[]]
theorem var_yield (hlo : PV.lowL 2 (mk 47 l) = true) (h5 : look l 5 = .ip [.str nm]) (h6 : look l 6 = .ptr (0,0) 1 0 0) (h7 : look l 7 = .ptr (0,1) 1 0 0) (i : Int) (f : Fld) :
    yieldR E (0,2) [.int .i64 i,.agg [.str f.name,.int .i64 f.ty.kind,.str f.ty.name]] (vHeap l G) = some (.bool (!decide (f.name = nm)),if f.name = nm then vHeap' l G f else vHeap l G) := by
  refine yield_rule (T := mk 47 l) (ps := [15,16]) (a := p80ra0) (b := p80rb0) (g := G) rfl rfl ?_
  show kQ E [.code p80ra0] _ .norm { lvl := 2,tmps := ((mk 47 l).set 15 _).set 16 _,heap := [_,[],[none,none,none,none]],defers := [] }
  by_cases hnm : f.name = nm
  · have pn := eq_true hnm
    repeat' first | ((with_reducible first | refine cS ?_ ?_ | refine oS ?_ ?_ | refine dS ?_ ?_) <;> intro _) | ((with_reducible refine kk ?_ ?_); · rfl) | (simp -implicitDefEqProofs (disch := first | omega | assumption) only [push_cast,simprocAttr,eqTop,eqShL,eqSh,K_seq,List.getD_cons_zero,List.getD_cons_succ,p80ra0,p80rb0,vHeap,vHeap',vLoop,h5,h6,h7,hget_00,hget_ss,hset_00,hset_ss,binS,str_beq,pn]) | ((with_reducible first | refine cB ?_ ?_ | refine oB ?_ ?_ | refine dB ?_ ?_) <;> intro _)
    simp [endRoundE,heapLow,obLow,PV.low,PV.lowL,hlo,hnm]
  · have pn := eq_false hnm
    repeat' first | ((with_reducible first | refine cS ?_ ?_ | refine oS ?_ ?_ | refine dS ?_ ?_) <;> intro _) | ((with_reducible refine kk ?_ ?_); · rfl) | (simp -implicitDefEqProofs (disch := first | omega | assumption) only [push_cast,simprocAttr,eqTop,eqShL,eqSh,K_seq,List.getD_cons_zero,List.getD_cons_succ,p80ra0,p80rb0,vHeap,vHeap',vLoop,h5,h6,h7,hget_00,hget_ss,hset_00,hset_ss,binS,str_beq,pn]) | ((with_reducible first | refine cB ?_ ?_ | refine oB ?_ ?_ | refine dB ?_ ?_) <;> intro _)
    simp [endRoundE,heapLow,obLow,PV.low,PV.lowL,hlo,hnm]
end
theorem vHeap_get {l : List (Nat × PV)} {G : Nat} : hget (vHeap l G) (0,2) = some (.loop (mk 47 l) [15,16] p80ra0 p80rb0 none G) := rfl
theorem back_loop (sc : List Fld) (hsc : sc.length ≤ 1048576) {f : Fl} (nm : Str) (l : List (Nat × PV)) (G : Nat) (hlo : PV.lowL 2 (mk 47 l) = true) (h5 : look l 5 = .ip [.str nm]) (h6 : look l 6 = .ptr (0,0) 1 0 0) (h7 : look l 7 = .ptr (0,1) 1 0 0) {ks : List KI} {Q : PEx → Fr → Prop}
    (hr : ∀ t x,lastF sc nm = some x → kQ E ks Q .ret { lvl := 1,tmps := mk 19 t,heap := vHeap' l G x,defers := [] })
    (hn : ∀ t,lastF sc nm = none → kQ E ks Q .norm { lvl := 1,tmps := mk 19 t,heap := vHeap l G,defers := [] }) :
    ∀ (n : Nat) (t : List (Nat × PV)),n ≤ sc.length → lastF (sc.take n) nm = lastF sc nm → look t 0 = .yld (0,2) G → look t 1 = .ip [.vs f (flds sc)] → look t 3 = .int .i64 ((n : Int) - 1) →
      kQ E (.code p154l0 :: .blk 0 :: ks) Q .norm { lvl := 1,tmps := mk 19 t,heap := vHeap l G,defers := [] } := by
  intro n
  induction n with
  | zero =>
    intro t hn0 hl k0 k1 k3
    refine loopK' (c := p154l0) rfl ?_
    repeat' first | ((with_reducible first | refine cS ?_ ?_ | refine oS ?_ ?_ | refine dS ?_ ?_) <;> intro _) | ((with_reducible refine kk ?_ ?_); · rfl) | (simp -implicitDefEqProofs (disch := first | omega | assumption) only [push_cast,simprocAttr,eqTop,eqShL,eqSh,K_seq,k0,k1,k3]) | ((with_reducible first | refine cB ?_ ?_ | refine oB ?_ ?_ | refine dB ?_ ?_) <;> intro _)
    exact hn _ (by rw [← hl]; rfl)
  | succ n ih =>
    intro t hn0 hl k0 k1 k3
    obtain ⟨x,hx⟩ : ∃ x,sc[n]? = some x := ⟨sc[n],by simp [show n < sc.length from hn0]⟩
    have hg : (flds sc)[n]? = some (.agg [.str x.name,.int .i64 x.ty.kind,.str x.ty.name]) := by simp [flds,hx]
    have hy := fun i => var_yield nm l G hlo h5 h6 h7 i x
    have e1 : ((n + 1 : Nat) : Int) - 1 = n := by omega
    have e2 : ((n : Int) + 1 - 1) = n := by omega
    have ht : sc.take (n + 1) = sc.take n ++ [x] := by rw [List.take_add_one,hx]; rfl
    rw [e1] at k3
    refine loopK' (c := p154l0) rfl ?_
    by_cases hnm : x.name = nm
    · have pn := eq_true hnm
      have hlx : lastF sc nm = some x := by rw [← hl,ht]; simp [lastF,hnm]
      repeat' first | ((with_reducible first | refine cS ?_ ?_ | refine oS ?_ ?_ | refine dS ?_ ?_) <;> intro _) | ((with_reducible refine kk ?_ ?_); · rfl) | (simp -implicitDefEqProofs (disch := first | omega | assumption) only [push_cast,simprocAttr,eqTop,eqShL,eqSh,K_seq,k0,k1,k3,hg,vHeap_get,hy,pn]) | ((with_reducible first | refine cB ?_ ?_ | refine oB ?_ ?_ | refine dB ?_ ?_) <;> intro _)
      exact hr _ x hlx
    · have pn := eq_false hnm
      have hlx : lastF (sc.take n) nm = lastF sc nm := by rw [← hl,ht]; simp [lastF,hnm]
      repeat' first | ((with_reducible first | refine cS ?_ ?_ | refine oS ?_ ?_ | refine dS ?_ ?_) <;> intro _) | ((with_reducible refine kk ?_ ?_); · rfl) | (simp -implicitDefEqProofs (disch := first | omega | assumption) only [push_cast,simprocAttr,eqTop,eqShL,eqSh,K_seq,k0,k1,k3,hg,vHeap_get,hy,pn]) | ((with_reducible first | refine cB ?_ ?_ | refine oB ?_ ?_ | refine dB ?_ ?_) <;> intro _)
      refine ih _ (by omega) hlx (by simp [look,look_keepL,k0]) (by simp [look,look_keepL,k1]) (by simp [look,look_keepL])
def vTop (l : List (Nat × PV)) (G : Nat) (r : Option Fld) : Heap := match r with
  | none => [[cell0,some (.mem [.bool false] 1 false 1),some (vLoop l none G),none]]
  | some f => [[some (.mem [.agg [.int .i64 f.ty.kind,.str f.ty.name]] 1 false 2),some (.mem [.bool true] 1 false 1),some (vLoop l (some .ret) G),none]]
theorem back_ok (sc : List Fld) (hsc : sc.length ≤ 1048576) (f : Fl) (nm : Str) (l : List (Nat × PV)) (G : Nat) (hlo : PV.lowL 2 (mk 47 l) = true) (hlo1 : PV.lowL 1 (mk 47 l) = true) (h5 : look l 5 = .ip [.str nm]) (h6 : look l 6 = .ptr (0,0) 1 0 0) (h7 : look l 7 = .ptr (0,1) 1 0 0) :
    doCall E (callR E) 154 [.yld (0,2) G,.ip [.vs f (flds sc)]] [[cell0,some (.mem [.bool false] 1 false 1),some (.loop (mk 47 l) [15,16] p80ra0 p80rb0 none G),none]] = some (.tuple [],vTop l G (lastF sc nm)) := by
  refine call_imp (pf := p154) rfl rfl rfl rfl rfl rfl ?_
  show kQ E _ (endM [] _ 1 _) .norm { lvl := 1,tmps := mk 19 [(0,.yld (0,2) G),(1,.ip [.vs f (flds sc)])],heap := vHeap l G,defers := [] }
  repeat' first | ((with_reducible first | refine cS ?_ ?_ | refine oS ?_ ?_ | refine dS ?_ ?_) <;> intro _) | ((with_reducible refine kk ?_ ?_); · rfl) | (simp -implicitDefEqProofs (disch := first | omega | assumption) only [push_cast,simprocAttr,eqTop,eqShL,eqSh,K_seq]) | ((with_reducible first | refine cB ?_ ?_ | refine oB ?_ ?_ | refine dB ?_ ?_) <;> intro _)
  refine back_loop sc hsc (f := f) nm l G hlo h5 h6 h7 ?_ ?_ sc.length _ (Nat.le_refl _) (by rw [List.take_length]) (by simp [look,look_keepL]) (by simp [look,look_keepL]) (by simp [look,look_keepL])
  · intro t x hx
    repeat' first | ((with_reducible first | refine cS ?_ ?_ | refine oS ?_ ?_ | refine dS ?_ ?_) <;> intro _) | ((with_reducible refine kk ?_ ?_); · rfl) | (simp -implicitDefEqProofs (disch := first | omega | assumption) only [push_cast,simprocAttr,eqTop,eqShL,eqSh,K_seq]) | ((with_reducible first | refine cB ?_ ?_ | refine oB ?_ ?_ | refine dB ?_ ?_) <;> intro _)
    rw [hx]
    simp [endM,allMarks,resultsE,mapO,vHeap',vTop,heapLow,obLow,PV.low,PV.lowL,vLoop,hlo1]
  · intro t hx
    repeat' first | ((with_reducible first | refine cS ?_ ?_ | refine oS ?_ ?_ | refine dS ?_ ?_) <;> intro _) | ((with_reducible refine kk ?_ ?_); · rfl) | (simp -implicitDefEqProofs (disch := first | omega | assumption) only [push_cast,simprocAttr,eqTop,eqShL,eqSh,K_seq]) | ((with_reducible first | refine cB ?_ ?_ | refine oB ?_ ?_ | refine dB ?_ ?_) <;> intro _)
    rw [hx]
    simp [endM,allMarks,resultsE,mapO,vHeap,vTop,heapLow,obLow,PV.low,PV.lowL,vLoop,hlo1]
theorem bw_ok (f : Fl) (sc : List Fld) (h : Heap) : doCall E (callR E) 124 [.vs f (flds sc)] h = some (.fn 154 [] [.ip [.vs f (flds sc)]],h) := by
  refine call_pure (pf := p124) rfl rfl rfl rfl (by simp [PV.lowL,PV.low,flds_low]) (by simp [PV.low,PV.lowL,flds_low]) ?_ h
  show kQ E _ (endQ [⟨2,none⟩] _) .norm { lvl := 0,tmps := mk 4 [(0,.vs f (flds sc))],heap := [[]],defers := [] }
  repeat' first | ((with_reducible first | refine cS ?_ ?_ | refine oS ?_ ?_ | refine dS ?_ ?_) <;> intro _) | ((with_reducible refine kk ?_ ?_); · rfl) | (simp -implicitDefEqProofs (disch := first | omega | assumption) only [push_cast,simprocAttr,eqTop,eqShL,eqSh,K_seq]) | ((with_reducible first | refine cB ?_ ?_ | refine oB ?_ ?_ | refine dB ?_ ?_) <;> intro _)
set_option maxHeartbeats 2000000 in
theorem var_ok (m : Mod) (hm : m.Ok) (fs : Fl) (sc : List Fld) (hsc : sc.length ≤ 1048576) (nm : Str) (h : Heap) : doCall E (callR E) 80 [.agg m.c,.vs fs (flds sc),.str nm] h = some (encV (varF m sc nm),h) := by
  have h1 := m.hm
  have g1 := hm.us
  have g2 := hm.ins
  have g3 := hm.outs
  have p1 := fdF_bd m.us nm
  have p2 := fdF_bd m.ins nm
  have p3 := fdF_bd m.outs nm
  refine call_pureM (pf := p80) rfl rfl rfl rfl (by simp [PV.lowL,PV.low,strs_low,flds_low,scts_low,funs_low,h1]) (by simp [PV.low,PV.lowL,strs_low,flds_low,scts_low,funs_low,h1]) ?_ h
  show kQ E _ (endM [⟨6,some (some 2)⟩,⟨7,some none⟩] _ 0 _) .norm { lvl := 0,tmps := mk 47 [(0,.agg m.c),(1,.vs fs (flds sc)),(2,.str nm)],heap := [[none,none,none,none]],defers := [] }
  repeat' first | ((with_reducible first | refine cS ?_ ?_ | refine oS ?_ ?_ | refine dS ?_ ?_) <;> intro _) | ((with_reducible refine kk ?_ ?_); · rfl) | (simp -implicitDefEqProofs (disch := first | omega | assumption) only [push_cast,simprocAttr,eqTop,eqShL,eqSh,K_seq,bw_ok]) | ((with_reducible first | refine cB ?_ ?_ | refine oB ?_ ?_ | refine dB ?_ ?_) <;> intro _)
  cases hL : lastF sc nm with
  | some x =>
    have hb := fun l a b c d e => back_ok sc hsc fs nm l 1 a b c d e
    rw [hL] at hb
    refine rangef_rule (G := 1) rfl (by show 2 < 4; decide) rfl (hb _ ?_ ?_ ?_ ?_ ?_) rfl (fun h => by cases h) (fun e he => ?_)
    · exact mk_low (by simp [PV.low,PV.lowL,strs_low,flds_low,scts_low,funs_low,h1])
    · exact mk_low (by simp [PV.low,PV.lowL,strs_low,flds_low,scts_low,funs_low,h1])
    · rfl
    · rfl
    · rfl
    · simp only [Option.some.injEq] at he
      subst he
      refine ⟨by simp, ?_⟩
      repeat' first | ((with_reducible first | refine cS ?_ ?_ | refine oS ?_ ?_ | refine dS ?_ ?_) <;> intro _) | ((with_reducible refine kk ?_ ?_); · rfl) | (simp -implicitDefEqProofs (disch := first | omega | assumption) only [push_cast,simprocAttr,eqTop,eqShL,eqSh,K_seq,vTop,h1,endM_ret,endM_norm,allMarks,heapLow,List.all_nil]) | ((with_reducible first | refine cB ?_ ?_ | refine oB ?_ ?_ | refine dB ?_ ?_) <;> intro _)
      simp [varF,hL]
  | none =>
    have hb := fun l a b c d e => back_ok sc hsc fs nm l 1 a b c d e
    rw [hL] at hb
    refine rangef_rule (G := 1) rfl (by show 2 < 4; decide) rfl (hb _ ?_ ?_ ?_ ?_ ?_) rfl (fun _ => ?_) (fun e he => by cases he)
    · exact mk_low (by simp [PV.low,PV.lowL,strs_low,flds_low,scts_low,funs_low,h1])
    · exact mk_low (by simp [PV.low,PV.lowL,strs_low,flds_low,scts_low,funs_low,h1])
    · rfl
    · rfl
    · rfl
    · by_cases u : fdF m.us nm < 0
      · have u1 := fd_none u
        by_cases i : fdF m.ins nm < 0
        · have i1 := fd_none i
          by_cases o : fdF m.outs nm < 0
          · have o1 := fd_none o
            repeat' first | ((with_reducible first | refine cS ?_ ?_ | refine oS ?_ ?_ | refine dS ?_ ?_) <;> intro _) | ((with_reducible refine kk ?_ ?_); · rfl) | (simp -implicitDefEqProofs (disch := first | omega | assumption) only [push_cast,simprocAttr,eqTop,eqShL,eqSh,K_seq,vTop,fidx_ok,g1,g2,g3,h1,endM_ret,endM_norm,allMarks,heapLow,List.all_nil]) | ((with_reducible first | refine cB ?_ ?_ | refine oB ?_ ?_ | refine dB ?_ ?_) <;> intro _) | refine loopK' (c := p80l1) rfl ?_
            all_goals simp [varF,hL,u1,i1,o1]
          · obtain ⟨f,o1,o2,o3⟩ := fd_get (l := m.outs) (nm := nm) (by omega)
            repeat' first | ((with_reducible first | refine cS ?_ ?_ | refine oS ?_ ?_ | refine dS ?_ ?_) <;> intro _) | ((with_reducible refine kk ?_ ?_); · rfl) | (simp -implicitDefEqProofs (disch := first | omega | assumption) only [push_cast,simprocAttr,eqTop,eqShL,eqSh,K_seq,vTop,fidx_ok,g1,g2,g3,o1,h1,endM_ret,endM_norm,allMarks,heapLow,List.all_nil]) | ((with_reducible first | refine cB ?_ ?_ | refine oB ?_ ?_ | refine dB ?_ ?_) <;> intro _) | refine loopK' (c := p80l1) rfl ?_
            all_goals simp [varF,hL,u1,i1,o2]
        · obtain ⟨f,i1,i2,i3⟩ := fd_get (l := m.ins) (nm := nm) (by omega)
          repeat' first | ((with_reducible first | refine cS ?_ ?_ | refine oS ?_ ?_ | refine dS ?_ ?_) <;> intro _) | ((with_reducible refine kk ?_ ?_); · rfl) | (simp -implicitDefEqProofs (disch := first | omega | assumption) only [push_cast,simprocAttr,eqTop,eqShL,eqSh,K_seq,vTop,fidx_ok,g1,g2,g3,i1,h1,endM_ret,endM_norm,allMarks,heapLow,List.all_nil]) | ((with_reducible first | refine cB ?_ ?_ | refine oB ?_ ?_ | refine dB ?_ ?_) <;> intro _) | refine loopK' (c := p80l1) rfl ?_
          all_goals simp [varF,hL,u1,i2]
      · obtain ⟨f,u1,u2,u3⟩ := fd_get (l := m.us) (nm := nm) (by omega)
        repeat' first | ((with_reducible first | refine cS ?_ ?_ | refine oS ?_ ?_ | refine dS ?_ ?_) <;> intro _) | ((with_reducible refine kk ?_ ?_); · rfl) | (simp -implicitDefEqProofs (disch := first | omega | assumption) only [push_cast,simprocAttr,eqTop,eqShL,eqSh,K_seq,vTop,fidx_ok,g1,g2,g3,u1,h1,endM_ret,endM_norm,allMarks,heapLow,List.all_nil]) | ((with_reducible first | refine cB ?_ ?_ | refine oB ?_ ?_ | refine dB ?_ ?_) <;> intro _) | refine loopK' (c := p80l1) rfl ?_
        all_goals simp [varF,hL,u2]
end Go.VI.S
