/- Chapter 20: members; arguments against parameters. -/
import Derived.Test.YtefikcjiblkmgaaGreatDoorF20i
set_option maxRecDepth 100000
set_option linter.unusedSimpArgs false
set_option linter.unusedVariables false
set_option pp.deepTerms.threshold 4
set_option pp.deepTerms false
namespace Go.VI.S
open Go.VI
def fldsAt (m : Mod) (i : Int) : List Fld := ((m.ss[i.toNat]?).map Sct.fs).getD []
theorem scts_get {m : Mod} {j : Int} (h0 : 0 ≤ j) (h1 : j < m.ss.length) : ∃ s : Sct,s ∈ m.ss ∧ (scts m.ss)[j.toNat]? = some (.agg [.str s.name,.vs s.fl (flds s.fs)]) ∧ fldsAt m j = s.fs := by
  have : j.toNat < m.ss.length := by omega
  exact ⟨m.ss[j.toNat],List.getElem_mem _,by simp [scts,List.getElem?_eq_getElem this],by simp [fldsAt,List.getElem?_eq_getElem this]⟩
def letters (k : Int) : List Str := if k = 5 then [[120],[121]] else if k = 6 then [[120],[121],[122]] else [[120],[121],[122],[119]]
def memF (m : Mod) (t : Ty) (nm : Str) : Ty × Int :=
  if isVc t.kind then (if nm ∈ letters t.kind then (⟨1,[]⟩,0) else (tz,13))
  else if t.kind ≠ 8 then (tz,12)
  else if stF m t.name < 0 then (tz,13)
  else if fdF (fldsAt m (stF m t.name)) nm < 0 then (tz,13)
  else (tyAt (fldsAt m (stF m t.name)) (fdF (fldsAt m (stF m t.name)) nm),0)
theorem encR_low (r : Ty × Int) : (encR r).low 0 = true := rfl
theorem mem_ok (m : Mod) (hm : m.Ok) (t : Ty) (nm : Str) (h : Heap) : doCall E (callR E) 83 [.agg m.c,.agg [.int .i64 t.kind,.str t.name],.str nm] h = some (encR (memF m t nm),h) := by
  have h1 := m.hm
  refine call_pure (pf := p83) rfl rfl rfl rfl (by simp [PV.lowL,PV.low,strs_low,flds_low,scts_low,funs_low,h1]) (by simp [PV.low,PV.lowL,strs_low,flds_low,scts_low,funs_low,h1]) ?_ h
  show kQ E _ (endQ [⟨6,some (some 2)⟩,⟨7,none⟩] _) .norm { lvl := 0,tmps := mk 65 [(0,.agg m.c),(1,.agg [.int .i64 t.kind,.str t.name]),(2,.str nm)],heap := [[none]],defers := [] }
  by_cases hv : 5 ≤ t.kind ∧ t.kind ≤ 7
  · have p5 : plainF 5 = 2 := rfl
    have p6 : plainF 6 = 3 := rfl
    have p7 : plainF 7 = 4 := rfl
    have hk : t.kind = 5 ∨ t.kind = 6 ∨ t.kind = 7 := by omega
    have e0 : ∀ a : Str,(a = nm) = (nm = a) := fun a => propext eq_comm
    rcases hk with hk | hk | hk
    all_goals rw [hk]
    all_goals
      repeat' first | ((with_reducible first | refine cS ?_ ?_ | refine oS ?_ ?_ | refine dS ?_ ?_) <;> intro _) | ((with_reducible refine kk ?_ ?_); · rfl) | (simp -implicitDefEqProofs (disch := first | omega | assumption) only [push_cast,simprocAttr,eqTop,eqShL,eqSh,K_seq,hk,h1,vc_ok,isVc,plain_ok,p5,p6,p7,boundsE,bound,kind_ok,binS,str_beq,Option.isSome_none,Bool.false_eq_true]) | ((with_reducible first | refine cB ?_ ?_ | refine oB ?_ ?_ | refine dB ?_ ?_) <;> intro _) | refine loopK' (c := p83l0) rfl ?_
    all_goals simp_all [memF,isVc,letters]
  · have h2 := stF_bd m t.name
    by_cases h8 : t.kind = 8
    · by_cases hs : stF m t.name < 0
      · repeat' first | ((with_reducible first | refine cS ?_ ?_ | refine oS ?_ ?_ | refine dS ?_ ?_) <;> intro _) | ((with_reducible refine kk ?_ ?_); · rfl) | (simp -implicitDefEqProofs (disch := first | omega | assumption) only [push_cast,simprocAttr,eqTop,eqShL,eqSh,K_seq,h1,vc_ok,isVc,find_ok,hm]) | ((with_reducible first | refine cB ?_ ?_ | refine oB ?_ ?_ | refine dB ?_ ?_) <;> intro _)
        all_goals simp [memF,isVc, *]
      · obtain ⟨s,hmem,hg,hfs⟩ := scts_get (m := m) (j := stF m t.name) (by omega) (by omega)
        have hsl := hm.sf s hmem
        have h3 := fdF_bd s.fs nm
        by_cases hf : fdF s.fs nm < 0
        · repeat' first | ((with_reducible first | refine cS ?_ ?_ | refine oS ?_ ?_ | refine dS ?_ ?_) <;> intro _) | ((with_reducible refine kk ?_ ?_); · rfl) | (simp -implicitDefEqProofs (disch := first | omega | assumption) only [push_cast,simprocAttr,eqTop,eqShL,eqSh,K_seq,h1,vc_ok,isVc,find_ok,hm,hg,fidx_ok,hsl]) | ((with_reducible first | refine cB ?_ ?_ | refine oB ?_ ?_ | refine dB ?_ ?_) <;> intro _)
          all_goals simp [memF,isVc, *]
        · obtain ⟨f,hgf,hty⟩ := flds_get (l := s.fs) (j := fdF s.fs nm) (by omega) (by omega)
          repeat' first | ((with_reducible first | refine cS ?_ ?_ | refine oS ?_ ?_ | refine dS ?_ ?_) <;> intro _) | ((with_reducible refine kk ?_ ?_); · rfl) | (simp -implicitDefEqProofs (disch := first | omega | assumption) only [push_cast,simprocAttr,eqTop,eqShL,eqSh,K_seq,h1,vc_ok,isVc,find_ok,hm,hg,fidx_ok,hsl,hgf]) | ((with_reducible first | refine cB ?_ ?_ | refine oB ?_ ?_ | refine dB ?_ ?_) <;> intro _)
          all_goals simp [memF,isVc, *]
    · repeat' first | ((with_reducible first | refine cS ?_ ?_ | refine oS ?_ ?_ | refine dS ?_ ?_) <;> intro _) | ((with_reducible refine kk ?_ ?_); · rfl) | (simp -implicitDefEqProofs (disch := first | omega | assumption) only [push_cast,simprocAttr,eqTop,eqShL,eqSh,K_seq,h1,vc_ok,isVc]) | ((with_reducible first | refine cB ?_ ?_ | refine oB ?_ ?_ | refine dB ?_ ?_) <;> intro _)
      all_goals simp [memF,isVc, *]
end Go.VI.S
