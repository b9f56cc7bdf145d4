/- Chapter 20: reference, Known: what it says, and what follows. -/
import Derived.Test.YtefikcjiblkmgaaGreatDoorF20zj
set_option maxRecDepth 100000
set_option linter.unusedSimpArgs false
set_option linter.unusedVariables false
set_option pp.deepTerms.threshold 4
set_option pp.deepTerms false
namespace Go.VI.S
open Go.VI
theorem flds_take3 {a b c : List Fld} : (flds (a ++ b ++ c)).take (a.length + b.length + c.length) = flds (a ++ b ++ c) := List.take_of_length_le (by rw [flds_len,List.length_append,List.length_append]; exact Nat.le_refl _)
theorem flds_drop2 {a : List Fld} {n : Nat} : (flds a).drop (a.length + n) = [] := List.drop_of_length_le (by rw [flds_len]; omega)
theorem flds_drop3 {a b : List Fld} {n : Nat} : (flds (a ++ b)).drop (a.length + b.length + n) = [] := List.drop_of_length_le (by rw [flds_len,List.length_append]; omega)
theorem flds_drop4 {a b c : List Fld} {n : Nat} : (flds (a ++ b ++ c)).drop (a.length + b.length + c.length + n) = [] := List.drop_of_length_le (by rw [flds_len,List.length_append,List.length_append]; omega)
set_option maxHeartbeats 8000000 in
theorem known_ok (m : Mod) (hm : m.Ok) (hs : m.OkS) (fs : Fl) (sc : List Fld) (hsc : sc.length ≤ 1048576) (h : Heap) : doCall E (callR E) 9 [.agg m.c,.vs fs (flds sc)] h = some (.bool (knownF m sc),h) := by
  have h1 := m.hm
  have g1 := hm.us
  have g2 := hm.ins
  have g3 := hm.outs
  have g4 := hm.ss
  have g5 := hm.fs
  have hce := fun h => clean_ok m hm hs fs sc hsc h
  have hl4 : (((sc ++ m.us) ++ m.ins) ++ m.outs).length = sc.length + m.us.length + m.ins.length + m.outs.length := by rw [List.length_append,List.length_append,List.length_append]
  refine call_pure (pf := p9) rfl rfl rfl rfl (by simp [PV.lowL,PV.low,strs_low,flds_low,scts_low,funs_low,h1]) (by simp [PV.low,PV.lowL,strs_low,flds_low,scts_low,funs_low,h1]) ?_ h
  show kQ E _ (endQ [⟨4,none⟩] _) .norm { lvl := 0,tmps := mk 84 [(0,.agg m.c),(1,.vs fs (flds sc))],heap := [[none,none,none,none,none,none,none]],defers := [] }
  by_cases u1 : m.us.length = 0
  all_goals by_cases u2 : m.ins.length = 0
  all_goals by_cases u3 : m.outs.length = 0
  all_goals
    repeat' first | ((with_reducible first | refine cS ?_ ?_ | refine oS ?_ ?_ | refine dS ?_ ?_) <;> intro _) | ((with_reducible refine kk ?_ ?_); · rfl) | (simp -implicitDefEqProofs (disch := first | omega | assumption) only [push_cast,simprocAttr,eqTop,eqShL,eqSh,K_seq,h1,flds_hd,flds_all,flds_take2,flds_take3,flds_drop2,flds_drop3,flds_drop4,flds_app2,main_same,funs_same,scts_same,strs_same,sts_same,exs_same,flds_same,stabG,stabS,same_agg,same_ip,same_int,same_bool,same_str,same_vs,same_sl,same_ptr,sameL_nil,sameL_cons]) | ((with_reducible first | refine cB ?_ ?_ | refine oB ?_ ?_ | refine dB ?_ ?_) <;> intro _) | with_reducible refine optD_chk ?_ ?_ | with_reducible refine chkQ_out (by decide) ?_ | with_reducible refine chkQ_in' (by decide) ?_ ?_ | with_reducible exact chkQ_end | with_reducible refine stab1_eq ?_ | with_reducible refine optQ_some' ?_
    with_reducible refine kst_loop m hm (fs := fs) sc (sallF m sc) ?_ m.ss [] (((sc ++ m.us) ++ m.ins) ++ m.outs) _ _ rfl rfl ?_ ?_ ?_ ?_ ?_
    all_goals first
      | (simp [look,look_keepL,Nat.add_assoc]; done)
      | (rw [hl4]; omega)
      | skip
    intro t acc g hacc hab k1 k2 k5
    repeat' first | ((with_reducible first | refine cS ?_ ?_ | refine oS ?_ ?_ | refine dS ?_ ?_) <;> intro _) | ((with_reducible refine kk ?_ ?_); · rfl) | (simp -implicitDefEqProofs (disch := first | omega | assumption) only [push_cast,simprocAttr,eqTop,eqShL,eqSh,K_seq,k1,k2,k5,h1]) | ((with_reducible first | refine cB ?_ ?_ | refine oB ?_ ?_ | refine dB ?_ ?_) <;> intro _)
    with_reducible refine kfn_loop m hm (fs := fs) sc (allF m sc) ?_ m.fs [] acc _ _ rfl (by rw [hacc,allF]) ?_ ?_ ?_ ?_ ?_
    all_goals first
      | (simp [look,look_keepL,k1,k2,k5]; done)
      | (simp only [List.length_nil]; omega)
      | skip
    intro t' acc' g' hacc' hab' k1' k2' k5'
    repeat' first | ((with_reducible first | refine cS ?_ ?_ | refine oS ?_ ?_ | refine dS ?_ ?_) <;> intro _) | ((with_reducible refine kk ?_ ?_); · rfl) | (simp -implicitDefEqProofs (disch := first | omega | assumption) only [push_cast,simprocAttr,eqTop,eqShL,eqSh,K_seq,k1',k2',k5',h1]) | ((with_reducible first | refine cB ?_ ?_ | refine oB ?_ ?_ | refine dB ?_ ?_) <;> intro _)
    with_reducible refine kkd_loop m (fs := fs) sc acc' (by omega) g' (knFlds acc') ?_ ?_ acc' [] _ rfl rfl ?_ ?_ ?_ ?_
    all_goals first
      | (simp [look,look_keepL,k1',k2',k5']; done)
      | skip
    · intro t2 hf k4
      repeat' first | ((with_reducible first | refine cS ?_ ?_ | refine oS ?_ ?_ | refine dS ?_ ?_) <;> intro _) | ((with_reducible refine kk ?_ ?_); · rfl) | (simp -implicitDefEqProofs (disch := first | omega | assumption) only [push_cast,simprocAttr,eqTop,eqShL,eqSh,K_seq,k4]) | ((with_reducible first | refine cB ?_ ?_ | refine oB ?_ ?_ | refine dB ?_ ?_) <;> intro _)
      all_goals (rw [hacc'] at hf; simp [knownF,hf])
    · intro t2 hf q1 q2
      repeat' first | ((with_reducible first | refine cS ?_ ?_ | refine oS ?_ ?_ | refine dS ?_ ?_) <;> intro _) | ((with_reducible refine kk ?_ ?_); · rfl) | (simp -implicitDefEqProofs (disch := first | omega | assumption) only [push_cast,simprocAttr,eqTop,eqShL,eqSh,K_seq,q1,q2,hce,h1]) | ((with_reducible first | refine cB ?_ ?_ | refine oB ?_ ?_ | refine dB ?_ ?_) <;> intro _)
      all_goals (rw [hacc'] at hf; simp [knownF,hf])
theorem knB_kn {t : Ty} (h : knB t = true) : t.Kn := by simpa [knB,Ty.Kn] using h
theorem knFlds_mem : ∀ {l : List Fld},knFlds l = true → ∀ f ∈ l,f.ty.Kn
  | [],_,f,h => by cases h
  | g :: r,h,f,hf => by
    simp [knFlds] at h
    rcases List.mem_cons.1 hf with e | hf
    · rw [e]; exact knB_kn h.1
    · exact knFlds_mem h.2 f hf
theorem clScts_mem : ∀ {l : List Sct},clScts l = true → ∀ s ∈ l, ∀ f ∈ s.fs,f.ty.Cl
  | [],_,f,h => by cases h
  | g :: r,h,f,hf => by
    simp [clScts] at h
    rcases List.mem_cons.1 hf with e | hf
    · rw [e]; exact clFlds_mem h.1
    · exact clScts_mem h.2 f hf
theorem clFuns_mem : ∀ {l : List Fun'},clFuns l = true → ∀ f ∈ l,f.res.Cl ∧ ∀ p ∈ f.ps,p.ty.Cl
  | [],_,f,h => by cases h
  | g :: r,h,f,hf => by
    simp [clFuns] at h
    rcases List.mem_cons.1 hf with e | hf
    · rw [e]; exact ⟨tyB_cl h.1.2.1,clFlds_mem h.1.1⟩
    · exact clFuns_mem h.2 f hf
theorem known_gd {m : Mod} {sc : List Fld} (h : knownF m sc = true) : m.Gd ∧ ∀ f ∈ sc,f.ty.Gd := by
  simp only [knownF,cleanF,Bool.and_eq_true] at h
  obtain ⟨hk,c1,c2,c3,c4,_,c6,c7⟩ := h
  have hk := knFlds_mem hk
  have k0 : ∀ f ∈ fallF m sc,f.ty.Kn := fun f hf => hk f (by unfold allF sallF; simp [hf])
  have ks : ∀ s ∈ m.ss, ∀ f ∈ s.fs,f.ty.Kn := fun s hs f hf => hk f (by
    unfold allF sallF
    refine List.mem_append_left _ (List.mem_append_right _ ?_)
    exact List.mem_flatMap.2 ⟨s,hs,hf⟩)
  have kf : ∀ f ∈ m.fs,f.res.Kn := fun f hf => hk ⟨[],f.res⟩ (by
    unfold allF
    refine List.mem_append_right _ ?_
    exact List.mem_flatMap.2 ⟨f,hf,by simp⟩)
  refine ⟨⟨fun f hf => ⟨clFlds_mem c2 f hf,k0 f (by simp [fallF,hf])⟩,fun f hf => ⟨clFlds_mem c3 f hf,k0 f (by simp [fallF,hf])⟩,fun f hf => ⟨clFlds_mem c4 f hf,k0 f (by simp [fallF,hf])⟩,fun s hs f hf => ⟨clScts_mem c6 s hs f hf,ks s hs f hf⟩,fun f hf => ⟨(clFuns_mem c7 f hf).1,kf f hf⟩⟩,fun f hf => ⟨clFlds_mem c1 f hf,k0 f (by simp [fallF,hf])⟩⟩
end Go.VI.S
