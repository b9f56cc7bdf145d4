/- Chapter 20: the reference's simple functions. -/
import Derived.Test.YtefikcjiblkmgaaGreatDoorF20rc
set_option maxRecDepth 100000
set_option linter.unusedSimpArgs false
set_option linter.unusedVariables false
set_option pp.deepTerms.threshold 4
set_option pp.deepTerms false
namespace Go.VI.S
open Go.VI
theorem of_ok (k : Int) (h : Heap) : doCall E (callR E) 45 [.int .i64 k] h = some (.agg [.int .i64 k,.str []],h) := by
  refine call_pure (pf := p45) rfl rfl rfl rfl (by simp [PV.lowL,PV.low]) (by simp [PV.low,PV.lowL]) ?_ h
  show kQ E _ (endQ [⟨2,some (some 2)⟩] _) .norm { lvl := 0,tmps := mk 5 [(0,.int .i64 k)],heap := [[none]],defers := [] }
  repeat' first | ((with_reducible first | refine cS ?_ ?_ | refine oS ?_ ?_ | refine dS ?_ ?_) <;> intro _) | ((with_reducible refine kk ?_ ?_); · rfl) | (simp -implicitDefEqProofs (disch := first | omega | assumption) only [push_cast,simprocAttr,eqTop,eqShL,eqSh,K_seq]) | ((with_reducible first | refine cB ?_ ?_ | refine oB ?_ ?_ | refine dB ?_ ?_) <;> intro _)
theorem rwhen_ok (b : Bool) (k : Int) (n : Str) (h : Heap) : doCall E (callR E) 88 [.bool b,.agg [.int .i64 k,.str n]] h = some (encR (typedF b ⟨k,n⟩),h) := by
  refine call_pure (pf := p88) rfl rfl rfl rfl (by simp [PV.lowL,PV.low]) (by simp [PV.low,PV.lowL]) ?_ h
  show kQ E _ (endQ [⟨4,some (some 2)⟩,⟨5,none⟩] _) .norm { lvl := 0,tmps := mk 10 [(0,.bool b),(1,.agg [.int .i64 k,.str n])],heap := [[none]],defers := [] }
  cases b
  all_goals
    repeat' first | ((with_reducible first | refine cS ?_ ?_ | refine oS ?_ ?_ | refine dS ?_ ?_) <;> intro _) | ((with_reducible refine kk ?_ ?_); · rfl) | (simp -implicitDefEqProofs (disch := first | omega | assumption) only [push_cast,simprocAttr,eqTop,eqShL,eqSh,K_seq]) | ((with_reducible first | refine cB ?_ ?_ | refine oB ?_ ?_ | refine dB ?_ ?_) <;> intro _)
  all_goals rfl
def veF (t : Ty) : Bool := isVc t.kind && decide (t.name = [])
theorem rvec_ok (t : Ty) (h : Heap) : doCall E (callR E) 90 [.agg [.int .i64 t.kind,.str t.name]] h = some (.bool (veF t),h) := by
  refine call_pure (pf := p90) rfl rfl rfl rfl (by simp [PV.lowL,PV.low]) (by simp [PV.low,PV.lowL]) ?_ h
  show kQ E _ (endQ [⟨2,none⟩] _) .norm { lvl := 0,tmps := mk 10 [(0,.agg [.int .i64 t.kind,.str t.name])],heap := [[]],defers := [] }
  repeat' first | ((with_reducible first | refine cS ?_ ?_ | refine oS ?_ ?_ | refine dS ?_ ?_) <;> intro _) | ((with_reducible refine kk ?_ ?_); · rfl) | (simp -implicitDefEqProofs (disch := first | omega | assumption) only [push_cast,simprocAttr,eqTop,eqShL,eqSh,K_seq,rvc_ok,binS,str_beq]) | ((with_reducible first | refine cB ?_ ?_ | refine oB ?_ ?_ | refine dB ?_ ?_) <;> intro _)
  all_goals simp_all [veF]
def arF (t : Ty) : Bool := decide (t = ⟨1,[]⟩) || (decide (t = ⟨2,[]⟩) || (decide (t = ⟨3,[]⟩) || veF t))
theorem arith_ok (t : Ty) (h : Heap) : doCall E (callR E) 89 [.agg [.int .i64 t.kind,.str t.name]] h = some (.bool (arF t),h) := by
  refine call_pure (pf := p89) rfl rfl rfl rfl (by simp [PV.lowL,PV.low]) (by simp [PV.low,PV.lowL]) ?_ h
  show kQ E _ (endQ [⟨2,none⟩] _) .norm { lvl := 0,tmps := mk 20 [(0,.agg [.int .i64 t.kind,.str t.name])],heap := [[]],defers := [] }
  have pu45 : pureB E 45 = true := rfl
  repeat' first | ((with_reducible first | refine cS ?_ ?_ | refine oS ?_ ?_ | refine dS ?_ ?_) <;> intro _) | ((with_reducible refine kk ?_ ?_); · rfl) | (simp -implicitDefEqProofs (disch := first | omega | assumption) only [push_cast,simprocAttr,K_seq,ty_eq,ty_eta,of_ok,rvec_ok]) | ((with_reducible first | refine cB ?_ ?_ | refine oB ?_ ?_ | refine dB ?_ ?_) <;> intro _)
  all_goals simp_all [arF]
theorem veF_cl {t : Ty} (h : t.Cl) : veF t = isVc t.kind := by
  unfold veF isVc
  by_cases hk : t.kind = 8
  · simp [hk]
  · simp [h hk]
theorem ty_cl {t : Ty} (h : t.Cl) {k : Int} (hk : k ≠ 8) : (t = ⟨k,[]⟩) = (t.kind = k) := by
  cases t with
  | mk a s =>
    simp only [Ty.mk.injEq,eq_iff_iff]
    constructor
    · exact fun e => e.1
    · intro e
      subst e
      exact ⟨rfl,h hk⟩
theorem arF_cl {t : Ty} (h : t.Cl) : arF t = isNm t.kind := by
  unfold arF
  rw [veF_cl h]
  simp only [ty_cl h (k := 1) (by decide),ty_cl h (k := 2) (by decide),ty_cl h (k := 3) (by decide),isVc,isNm]
  rw [Bool.eq_iff_iff]
  simp only [Bool.or_eq_true,decide_eq_true_eq]
  omega
theorem rlit_ok (k o x : Int) (nm : Str) (fl : Fl) (as : List Ex) (j l : Int) (h : Heap) : doCall E (callR E) 40 [.agg [.int .i64 k,.int .i64 o,.str nm,.int .i64 x,.vs fl (exs as)],.int .i64 j,.int .i64 l] h = some (encR (litF j x l),h) := by
  refine call_pure (pf := p40) rfl rfl rfl rfl (by simp [PV.lowL,PV.low,exs_low]) (by simp [PV.low,PV.lowL,exs_low]) ?_ h
  show kQ E _ (endQ [⟨6,some (some 2)⟩,⟨7,none⟩] _) .norm { lvl := 0,tmps := mk 20 [(0,.agg [.int .i64 k,.int .i64 o,.str nm,.int .i64 x,.vs fl (exs as)]),(1,.int .i64 j),(2,.int .i64 l)],heap := [[none]],defers := [] }
  repeat' first | ((with_reducible first | refine cS ?_ ?_ | refine oS ?_ ?_ | refine dS ?_ ?_) <;> intro _) | ((with_reducible refine kk ?_ ?_); · rfl) | (simp -implicitDefEqProofs (disch := first | omega | assumption) only [push_cast,simprocAttr,eqTop,eqShL,eqSh,K_seq,of_ok]) | ((with_reducible first | refine cB ?_ ?_ | refine oB ?_ ?_ | refine dB ?_ ?_) <;> intro _)
  all_goals (unfold litF; (repeat' split) <;> first | rfl | omega)
def runaryF (op : Int) (t : Ty) : Ty × Int := if op = 17 then typedF (arF t) t else if op = 18 then typedF (decide (t = ⟨3,[]⟩) || decide (t = ⟨4,[]⟩)) t else (tz,10)
theorem runary_ok (op : Int) (t : Ty) (h : Heap) : doCall E (callR E) 42 [.int .i64 op,.agg [.int .i64 t.kind,.str t.name]] h = some (encR (runaryF op t),h) := by
  refine call_pure (pf := p42) rfl rfl rfl rfl (by simp [PV.lowL,PV.low]) (by simp [PV.low,PV.lowL]) ?_ h
  show kQ E _ (endQ [⟨4,some (some 2)⟩,⟨5,none⟩] _) .norm { lvl := 0,tmps := mk 30 [(0,.int .i64 op),(1,.agg [.int .i64 t.kind,.str t.name])],heap := [[none]],defers := [] }
  have pu45 : pureB E 45 = true := rfl
  have pu89 : pureB E 89 = true := rfl
  repeat' first | ((with_reducible first | refine cS ?_ ?_ | refine oS ?_ ?_ | refine dS ?_ ?_) <;> intro _) | ((with_reducible refine kk ?_ ?_); · rfl) | (simp -implicitDefEqProofs (disch := first | omega | assumption) only [push_cast,simprocAttr,K_seq,ty_eq,ty_eta,of_ok,arith_ok,rwhen_ok]) | ((with_reducible first | refine cB ?_ ?_ | refine oB ?_ ?_ | refine dB ?_ ?_) <;> intro _)
  all_goals simp_all [runaryF]
theorem runary_cl {op : Int} {t : Ty} (h : t.Cl) : runaryF op t = unaryF op t := by
  unfold runaryF unaryF
  rw [arF_cl h]
  simp only [ty_cl h (k := 3) (by decide),ty_cl h (k := 4) (by decide),Bool.decide_or]
def rbinaryF (op : Int) (t u : Ty) : Ty × Int :=
  if op = 1 ∨ op = 2 then typedF (decide (t = u) && arF t) t
  else if op = 3 ∨ op = 4 then typedF ((decide (t = u) && arF t) || (veF t && decide (u = ⟨1,[]⟩))) t
  else if op = 5 ∨ op = 9 ∨ op = 10 then typedF (decide (t = ⟨3,[]⟩) && decide (u = ⟨3,[]⟩)) ⟨3,[]⟩
  else if op = 6 ∨ op = 7 ∨ op = 8 then typedF (decide (t = u) && (decide (t = ⟨3,[]⟩) || decide (t = ⟨4,[]⟩))) t
  else if op = 11 ∨ op = 12 ∨ op = 13 ∨ op = 14 then typedF (decide (t = u) && arF t && !veF t) ⟨4,[]⟩
  else if op = 15 ∨ op = 16 then typedF (decide (t = u) && !decide (t.kind = 8)) ⟨4,[]⟩
  else (tz,10)
set_option maxHeartbeats 4000000 in
theorem rbinary_ok (op : Int) (t u : Ty) (h : Heap) : doCall E (callR E) 43 [.int .i64 op,.agg [.int .i64 t.kind,.str t.name],.agg [.int .i64 u.kind,.str u.name]] h = some (encR (rbinaryF op t u),h) := by
  cases har : arF t
  all_goals cases hve : veF t
  all_goals
    refine call_pure (pf := p43) rfl rfl rfl rfl (by simp [PV.lowL,PV.low]) (by simp [PV.low,PV.lowL]) ?_ h
    show kQ E _ (endQ [⟨6,some (some 2)⟩,⟨7,none⟩] _) .norm { lvl := 0,tmps := mk 124 [(0,.int .i64 op),(1,.agg [.int .i64 t.kind,.str t.name]),(2,.agg [.int .i64 u.kind,.str u.name])],heap := [[none,none,none]],defers := [] }
    have pu45 : pureB E 45 = true := rfl
    have pu89 : pureB E 89 = true := rfl
    have pu90 : pureB E 90 = true := rfl
    repeat' first | ((with_reducible first | refine cS ?_ ?_ | refine oS ?_ ?_ | refine dS ?_ ?_) <;> intro _) | ((with_reducible refine kk ?_ ?_); · rfl) | (simp -implicitDefEqProofs (disch := first | omega | assumption) only [push_cast,simprocAttr,K_seq,ty_eq,ty_eta,of_ok,arith_ok,rvec_ok,rwhen_ok,har,hve]) | ((with_reducible first | refine cB ?_ ?_ | refine oB ?_ ?_ | refine dB ?_ ?_) <;> intro _)
  all_goals
    subst_vars
    simp_all [rbinaryF]
theorem rbinary_cl {op : Int} {t u : Ty} (ht : t.Cl) (hu : u.Cl) (hk : t.Kn) : rbinaryF op t u = binaryF op t u := by
  unfold rbinaryF binaryF
  rw [arF_cl ht,veF_cl ht]
  by_cases h1 : op = 3 ∨ op = 4
  · rw [if_neg (by omega),if_pos h1,if_pos h1]
    by_cases hv : isVc t.kind = true ∧ u = ⟨1,[]⟩
    · rw [if_pos hv]; simp [typedF,hv.1,hv.2]
    · rw [if_neg hv]
      congr 1
      rw [Bool.eq_iff_iff]
      simp only [Bool.or_eq_true,Bool.and_eq_true,decide_eq_true_eq]
      exact ⟨fun h => h.elim id fun h => absurd h hv,.inl⟩
  · rw [if_neg h1,if_neg h1]
    by_cases h2 : op = 1 ∨ op = 2
    · rw [if_pos h2,if_pos h2]
    rw [if_neg h2,if_neg h2]
    by_cases h3 : op = 5 ∨ op = 9 ∨ op = 10
    · rw [if_pos h3,if_pos h3]
      by_cases h : t = ⟨3,[]⟩
      · subst h; by_cases h' : u = ⟨3,[]⟩
        · subst h'; simp [typedF]
        · simp [typedF,h',Ne.symm h']
      · have : ¬ t.kind = 3 := by rw [← ty_cl ht (by decide)]; exact h
        simp [typedF,h,this]
    rw [if_neg h3,if_neg h3]
    by_cases h4 : op = 6 ∨ op = 7 ∨ op = 8
    · rw [if_pos h4,if_pos h4]
      simp only [ty_cl ht (k := 3) (by decide),ty_cl ht (k := 4) (by decide),Bool.decide_or]
    rw [if_neg h4,if_neg h4]
    by_cases h5 : op = 11 ∨ op = 12 ∨ op = 13 ∨ op = 14
    · rw [if_pos h5,if_pos h5]
    rw [if_neg h5,if_neg h5]
    by_cases h6 : op = 15 ∨ op = 16
    · rw [if_pos h6,if_pos h6]
      congr 2
      unfold Ty.Kn at hk
      rw [Bool.eq_iff_iff]
      simp [isSc,isVc]
      omega
    rw [if_neg h6,if_neg h6]
def opF (k : Int) : Int := if k = 1 ∨ k = 2 ∨ k = 3 ∨ k = 4 then 0 else if k = 5 ∨ k = 8 then 1 else if k = 6 ∨ k = 9 then 2 else if k = 7 then -1 else -2
theorem op_ok (k : Int) (h : Heap) : doCall E (callR E) 38 [.int .i64 k] h = some (.int .i64 (opF k),h) := by
  refine call_pure (pf := p38) rfl rfl rfl rfl (by simp [PV.lowL,PV.low]) (by simp [PV.low,PV.lowL]) ?_ h
  show kQ E _ (endQ [⟨2,none⟩] _) .norm { lvl := 0,tmps := mk 17 [(0,.int .i64 k)],heap := [[]],defers := [] }
  repeat' first | ((with_reducible first | refine cS ?_ ?_ | refine oS ?_ ?_ | refine dS ?_ ?_) <;> intro _) | ((with_reducible refine kk ?_ ?_); · rfl) | (simp -implicitDefEqProofs (disch := first | omega | assumption) only [push_cast,simprocAttr,eqTop,eqShL,eqSh,K_seq]) | ((with_reducible first | refine cB ?_ ?_ | refine oB ?_ ?_ | refine dB ?_ ?_) <;> intro _)
  all_goals (unfold opF; congr 1; (repeat' split) <;> omega)
theorem rword_ok (nm : Str) (h : Heap) : doCall E (callR E) 91 [.str nm] h = some (.int .i64 (wordF nm),h) := by
  refine call_pure (pf := p91) rfl rfl rfl rfl (by simp [PV.lowL,PV.low]) (by simp [PV.low,PV.lowL]) ?_ h
  show kQ E _ (endQ [⟨2,none⟩] _) .norm { lvl := 0,tmps := mk 20 [(0,.str nm)],heap := [[]],defers := [] }
  repeat' first | ((with_reducible first | refine cS ?_ ?_ | refine oS ?_ ?_ | refine dS ?_ ?_) <;> intro _) | ((with_reducible refine kk ?_ ?_); · rfl) | (simp -implicitDefEqProofs (disch := first | omega | assumption) only [push_cast,simprocAttr,eqTop,eqShL,eqSh,K_seq,binS,str_beq]) | ((with_reducible first | refine cB ?_ ?_ | refine oB ?_ ?_ | refine dB ?_ ?_) <;> intro _) | refine loopK' (c := p91l0) rfl ?_
  all_goals first
    | (rename_i hh; subst hh; rfl)
    | (have e : ∀ a : Str,(nm = a) = (a = nm) := fun a => propext eq_comm
       simp [wordF,sidxF,idxF,idxG,wordsL,e, *]; done)
    | trace_state
def rarF (nm : Str) : Int :=
  if nm = [97,98,115] ∨ nm = [102,108,111,111,114] ∨ nm = [102,114,97,99,116] ∨ nm = [115,113,114,116] ∨ nm = [100,100,120] ∨ nm = [100,100,121] then 1
  else if nm = [109,105,110] ∨ nm = [109,97,120] ∨ nm = [100,111,116] ∨ nm = [108,111,97,100] then 2
  else if nm = [99,108,97,109,112] ∨ nm = [109,105,120] ∨ nm = [115,97,109,112,108,101] then 3
  else if nm = [102,101,116,99,104] then 4 else -1
theorem rar_ok (nm : Str) (h : Heap) : doCall E (callR E) 95 [.str nm] h = some (.int .i64 (rarF nm),h) := by
  refine call_pure (pf := p95) rfl rfl rfl rfl (by simp [PV.lowL,PV.low]) (by simp [PV.low,PV.lowL]) ?_ h
  show kQ E _ (endQ [⟨2,none⟩] _) .norm { lvl := 0,tmps := mk 22 [(0,.str nm)],heap := [[]],defers := [] }
  repeat' first | ((with_reducible first | refine cS ?_ ?_ | refine oS ?_ ?_ | refine dS ?_ ?_) <;> intro _) | ((with_reducible refine kk ?_ ?_); · rfl) | (simp -implicitDefEqProofs (disch := first | omega | assumption) only [push_cast,simprocAttr,eqTop,eqShL,eqSh,K_seq,binS,str_beq]) | ((with_reducible first | refine cB ?_ ?_ | refine oB ?_ ?_ | refine dB ?_ ?_) <;> intro _)
  all_goals simp_all [rarF]
theorem rblt_ok (m : Mod) (hm : m.Ok) (nm : Str) (h : Heap) : doCall E (callR E) 86 [.agg m.c,.str nm] h = some (.bool (decide (wordF nm = 0) && (decide (stF m nm < 0) && decide (rarF nm ≥ 0))),h) := by
  have h1 := m.hm
  refine call_pure (pf := p86) rfl rfl rfl rfl (by simp [PV.lowL,PV.low,strs_low,flds_low,scts_low,funs_low,h1]) (by simp [PV.low,PV.lowL,strs_low,flds_low,scts_low,funs_low,h1]) ?_ h
  show kQ E _ (endQ [⟨4,none⟩] _) .norm { lvl := 0,tmps := mk 19 [(0,.agg m.c),(1,.str nm)],heap := [[]],defers := [] }
  repeat' first | ((with_reducible first | refine cS ?_ ?_ | refine oS ?_ ?_ | refine dS ?_ ?_) <;> intro _) | ((with_reducible refine kk ?_ ?_); · rfl) | (simp -implicitDefEqProofs (disch := first | omega | assumption) only [push_cast,simprocAttr,eqTop,eqShL,eqSh,K_seq,rword_ok,rfind_ok,hm,rar_ok,h1]) | ((with_reducible first | refine cB ?_ ?_ | refine oB ?_ ?_ | refine dB ?_ ?_) <;> intro _)
  all_goals simp_all
end Go.VI.S
