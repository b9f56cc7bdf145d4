/- Chapter 20: variables; which calls take a resource. -/
import Derived.Test.YtefikcjiblkmgaaGreatDoorF20k
set_option maxRecDepth 100000
set_option linter.unusedSimpArgs false
set_option linter.unusedVariables false
set_option pp.deepTerms.threshold 4
set_option pp.deepTerms false
namespace Go.VI.S
open Go.VI
def arityF (k : Int) : Int := if k = 1 ∨ k = 2 ∨ k = 3 ∨ k = 4 then 0 else if k = 5 ∨ k = 8 then 1 else if k = 6 ∨ k = 9 then 2 else -1
theorem arity_ok (k : Int) (h : Heap) : doCall E (callR E) 35 [.int .i64 k] h = some (.int .i64 (arityF k),h) := by
  refine call_pure (pf := p35) rfl rfl rfl rfl (by simp [PV.lowL,PV.low]) (by simp [PV.low,PV.lowL]) ?_ h
  show kQ E _ (endQ [⟨2,none⟩] _) .norm { lvl := 0,tmps := mk 15 [(0,.int .i64 k)],heap := [[]],defers := [] }
  repeat' first | ((with_reducible first | refine cS ?_ ?_ | refine oS ?_ ?_ | refine dS ?_ ?_) <;> intro _) | ((with_reducible refine kk ?_ ?_); · rfl) | (simp -implicitDefEqProofs (disch := first | omega | assumption) only [push_cast,simprocAttr,eqTop,eqShL,eqSh,K_seq]) | ((with_reducible first | refine cB ?_ ?_ | refine oB ?_ ?_ | refine dB ?_ ?_) <;> intro _)
  all_goals (unfold arityF; congr 1; (repeat' split) <;> omega)
def resNames : List Str := [[115,97,109,112,108,101],[102,101,116,99,104],[108,111,97,100],[100,100,120],[100,100,121]]
def takesF (m : Mod) (k : Int) (nm : Str) : Bool := decide (nm ∈ resNames) && (decide (k = 7) && decide (stF m nm < 0))
theorem takes_ok (m : Mod) (hm : m.Ok) (k o x : Int) (nm : Str) (fl : Fl) (as : List Ex) (h : Heap) : doCall E (callR E) 36 [.agg m.c,.agg [.int .i64 k,.int .i64 o,.str nm,.int .i64 x,.vs fl (exs as)]] h = some (.bool (takesF m k nm),h) := by
  have h1 := m.hm
  refine call_pure (pf := p36) rfl rfl rfl rfl (by simp [PV.lowL,PV.low,strs_low,flds_low,scts_low,funs_low,h1,exs_low]) (by simp [PV.low,PV.lowL,strs_low,flds_low,scts_low,funs_low,h1,exs_low]) ?_ h
  show kQ E _ (endQ [⟨4,none⟩] _) .norm { lvl := 0,tmps := mk 23 [(0,.agg m.c),(1,.agg [.int .i64 k,.int .i64 o,.str nm,.int .i64 x,.vs fl (exs as)])],heap := [[]],defers := [] }
  repeat' first | ((with_reducible first | refine cS ?_ ?_ | refine oS ?_ ?_ | refine dS ?_ ?_) <;> intro _) | ((with_reducible refine kk ?_ ?_); · rfl) | (simp -implicitDefEqProofs (disch := first | omega | assumption) only [push_cast,simprocAttr,eqTop,eqShL,eqSh,K_seq,h1,binS,str_beq,find_ok,hm]) | ((with_reducible first | refine cB ?_ ?_ | refine oB ?_ ?_ | refine dB ?_ ?_) <;> intro _)
  all_goals simp_all [takesF,resNames]
def lastF (l : List Fld) (nm : Str) : Option Fld := l.reverse.find? fun f => decide (f.name = nm)
def firstF (l : List Fld) (nm : Str) : Option Fld := l.find? fun f => decide (f.name = nm)
def varF (m : Mod) (sc : List Fld) (nm : Str) : Option Ty :=
  ((lastF sc nm).or ((firstF m.us nm).or ((firstF m.ins nm).or (firstF m.outs nm)))).map Fld.ty
abbrev encV (r : Option Ty) : PV := .tuple [.agg [.int .i64 (r.getD tz).kind,.str (r.getD tz).name],.bool r.isSome]
def varR (m : Mod) (sc : List Fld) (nm : Str) : Ty × Int := match varF m sc nm with | some t => (t,0) | none => (tz,13)
theorem fdG_first : ∀ (l : List Fld) (nm : Str) (i : Int),0 ≤ i → (idxG (fun s => decide (s.name = nm)) l i = -1 → firstF l nm = none) ∧ (0 ≤ idxG (fun s => decide (s.name = nm)) l i → ∃ f,l[(idxG (fun s => decide (s.name = nm)) l i - i).toNat]? = some f ∧ firstF l nm = some f)
  | [],nm,i,_ => by simp [idxG,firstF]
  | f :: r,nm,i,hi => by
    by_cases hf : f.name = nm
    · simp [idxG,firstF,hf]
      omega
    · have ih := fdG_first r nm (i + 1) (by omega)
      have e : idxG (fun s => decide (s.name = nm)) (f :: r) i = idxG (fun s => decide (s.name = nm)) r (i + 1) := by simp [idxG,hf]
      have e2 : firstF (f :: r) nm = firstF r nm := by simp [firstF,hf]
      rw [e,e2]
      refine ⟨ih.1,fun h1 => ?_⟩
      obtain ⟨g,h2,h3⟩ := ih.2 h1
      refine ⟨g, ?_,h3⟩
      rcases idxG_nat (fun s : Fld => decide (s.name = nm)) r (i + 1) with h | h
      · omega
      · have : (idxG (fun s => decide (s.name = nm)) r (i + 1) - i).toNat = (idxG (fun s => decide (s.name = nm)) r (i + 1) - (i + 1)).toNat + 1 := by omega
        rw [this,List.getElem?_cons_succ]
        exact h2
theorem fd_none {l : List Fld} {nm : Str} (h : fdF l nm < 0) : firstF l nm = none := (fdG_first l nm 0 (by omega)).1 ((idxF_bd _ _).2.2 h)
theorem fd_some {l : List Fld} {nm : Str} (h : 0 ≤ fdF l nm) : ∃ f,l[(fdF l nm).toNat]? = some f ∧ firstF l nm = some f := by
  obtain ⟨f,h1,h2⟩ := (fdG_first l nm 0 (by omega)).2 h
  exact ⟨f,by simpa [fdF,idxF] using h1,h2⟩
theorem fd_get {l : List Fld} {nm : Str} (h : 0 ≤ fdF l nm) : ∃ f,(flds l)[(fdF l nm).toNat]? = some (.agg [.str f.name,.int .i64 f.ty.kind,.str f.ty.name]) ∧ firstF l nm = some f ∧ tyAt l (fdF l nm) = f.ty := by
  obtain ⟨f,h1,h2⟩ := fd_some h
  exact ⟨f,by simp [flds,h1],h2,by simp [tyAt,h1]⟩
end Go.VI.S
