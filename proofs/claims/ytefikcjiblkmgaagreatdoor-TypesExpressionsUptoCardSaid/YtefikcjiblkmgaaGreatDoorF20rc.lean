/- Chapter 20: ExprType. -/
import Derived.Test.YtefikcjiblkmgaaGreatDoorF20rb
set_option maxRecDepth 100000
set_option linter.unusedSimpArgs false
set_option linter.unusedVariables false
set_option pp.deepTerms.threshold 4
set_option pp.deepTerms false
namespace Go.VI.S
open Go.VI
mutual
def Ex.size : Ex → Nat
  | .mk _ _ _ _ _ as => 1 + sizeL as
def sizeL : List Ex → Nat
  | [] => 0
  | e :: r => e.size + sizeL r
end
theorem Ex.size_mem {e : Ex} : ∀ {l : List Ex},e ∈ l → e.size ≤ sizeL l
  | [],h => by cases h
  | x :: l,h => by
    rcases List.mem_cons.1 h with rfl | h
    · simp [sizeL]
    · have := Ex.size_mem h; simp [sizeL]; omega
theorem sizeL_len : ∀ l : List Ex,l.length ≤ sizeL l
  | [] => Nat.le_refl _
  | e :: l => by
    have := sizeL_len l
    have : 1 ≤ e.size := by cases e; simp [Ex.size]
    simp [sizeL]; omega
theorem node_own (m : Mod) (hm : m.Ok) (fs : Fl) (sc : List Fld) (hsc : sc.length ≤ 1048576) (k o x : Int) (nm : Str) (fl : Fl) (as : List Ex) (ts : List Ty) (hl : ts.length = as.length) (hb : ts.length ≤ 1048576) (ha : k = 7 ∨ (as.length : Int) = arityF k) (c0 o2 o3 o4 : Option Ob) :
    doCall E (callR E) 37 [.agg m.c,.vs fs (flds sc),.agg [.int .i64 k,.int .i64 o,.str nm,.int .i64 x,.vs fl (exs as)],.sl (0,1) 1 0 as.length] [[c0,some (.mem (tys ts) 1 true 2),o2,o3,o4]] = some (encR (nodeF m sc k o nm x as ts),[[c0,some (.mem (tys ts) 1 true 2),o2,o3,o4]]) := by
  have h1 := m.hm
  have ht : (tys ts).take as.length = tys ts := List.take_of_length_le (by rw [tys_len]; omega)
  refine call_snap (pf := p37) (args' := [.agg m.c,.vs fs (flds sc),.agg [.int .i64 k,.int .i64 o,.str nm,.int .i64 x,.vs fl (exs as)],.vs .any (tys ts)]) rfl rfl (by simp [PV.lowL,PV.low,strs_low,flds_low,scts_low,funs_low,h1,exs_low]; rfl) ?_ (by simp [PV.lowL,PV.low,strs_low,flds_low,scts_low,funs_low,h1,exs_low,tys_low]) (node_ok m hm fs sc hsc k o x nm fl as .any ts hl hb ha _) rfl
  simp [mapO,snap,PV.low,PV.lowL,strs_low,flds_low,scts_low,funs_low,h1,exs_low,hget,tys_len,ht,hl]
theorem repl_tys {n : Nat} : List.replicate n (PV.agg [.int .i64 0,.str []]) = tys (List.replicate n tz) := by simp [tys]
theorem appX_nil {r : Except Int (List Ty)} : appX [] r = r := by cases r <;> simp [appX]
theorem args_len {m : Mod} {sc : List Fld} : ∀ {as : List Ex} {skip : Bool} {ts : List Ty},argsF m sc skip as = .ok ts → ts.length = as.length
  | [],skip,ts,h => by simp [argsF] at h; subst h; rfl
  | a :: r,skip,ts,h => by
    unfold argsF at h
    have go : ∀ t,consX t (argsF m sc false r) = .ok ts → ts.length = (a :: r).length := by
      intro t h
      cases hr : argsF m sc false r with
      | error c => rw [hr] at h; simp [consX] at h
      | ok l =>
        rw [hr] at h
        simp [consX] at h
        subst h
        simp [args_len hr]
    split at h
    · exact go _ h
    · split at h
      · cases h
      · exact go _ h
set_option maxHeartbeats 4000000 in
theorem exprtype_ok : ∀ (n : Nat) (e : Ex),e.size ≤ n → e.size ≤ 1048576 → ∀ (m : Mod) (hm : m.Ok) (fs : Fl) (sc : List Fld) (hsc : sc.length ≤ 1048576) (h : Heap),
    doCall E (callR E) 11 [.agg m.c,.vs fs (flds sc),.agg e.c] h = some (encR (exprF m sc e),h)
  | 0,.mk k o nm x fl as,hn,_,_,_,_,_,_,_ => by simp [Ex.size] at hn
  | n + 1,.mk k o nm x fl as,hn,hok,m,hm,fs,sc,hsc,h => by
    have hsz : 1 + sizeL as ≤ 1048576 := by simpa [Ex.size] using hok
    have has : as.length ≤ 1048576 := by have := sizeL_len as; omega
    have hrec : ∀ a ∈ as, ∀ h,doCall E (callR E) 11 [.agg m.c,.vs fs (flds sc),.agg a.c] h = some (encR (exprF m sc a),h) := by
      intro a ha h
      have := Ex.size_mem ha
      exact exprtype_ok n a (by simp [Ex.size] at hn; omega) (by omega) m hm fs sc hsc h
    have h1 := m.hm
    rw [show (Ex.mk k o nm x fl as).c = [.int .i64 k,.int .i64 o,.str nm,.int .i64 x,.vs fl (exs as)] from by simp [Ex.c]]
    by_cases hk : k ≠ 7 ∧ (as.length : Int) ≠ arityF k
    · obtain ⟨hk1,hk2⟩ := hk
      refine call_pure (pf := p11) rfl rfl rfl rfl (by simp [PV.lowL,PV.low,strs_low,flds_low,scts_low,funs_low,h1,exs_low]) (by simp [PV.low,PV.lowL,strs_low,flds_low,scts_low,funs_low,h1,exs_low]) ?_ h
      show kQ E _ (endQ [⟨6,some (some 2)⟩,⟨7,none⟩] _) .norm { lvl := 0,tmps := mk 76 [(0,.agg m.c),(1,.vs fs (flds sc)),(2,.agg [.int .i64 k,.int .i64 o,.str nm,.int .i64 x,.vs fl (exs as)])],heap := [[none,none,none,none,none]],defers := [] }
      have pu35 : pureB E 35 = true := rfl
      repeat' first | ((with_reducible first | refine cS ?_ ?_ | refine oS ?_ ?_ | refine dS ?_ ?_) <;> intro _) | ((with_reducible refine kk ?_ ?_); · rfl) | (simp -implicitDefEqProofs (disch := first | omega | assumption) only [push_cast,simprocAttr,eqTop,eqShL,eqSh,K_seq,arity_ok,hk1,hk2]) | ((with_reducible first | refine cB ?_ ?_ | refine oB ?_ ?_ | refine dB ?_ ?_) <;> intro _)
      all_goals simp [exprF,hk1,hk2]
    · have ha : k = 7 ∨ (as.length : Int) = arityF k := by omega
      have hx : exprF m sc (.mk k o nm x fl as) = (match argsF m sc (takesF m k nm) as with | .error c => (tz,c) | .ok ts => outF (nodeF m sc k o nm x as ts)) := by rw [exprF,if_neg hk]; cases argsF m sc (takesF m k nm) as <;> rfl
      have ha0 := ha
      have hin : appX [] (argsF m sc (takesF m k nm && decide (([] : List Ex).length = 0)) as) = argsF m sc (takesF m k nm) as := by simp [appX_nil]
      have hnil : tys (List.replicate as.length tz) = tys ([] ++ List.replicate as.length tz) := rfl
      rw [hx]
      rcases ha with ha | ha
      · subst ha
        refine call_pure (pf := p11) rfl rfl rfl rfl (by simp [PV.lowL,PV.low,strs_low,flds_low,scts_low,funs_low,h1,exs_low]) (by simp [PV.low,PV.lowL,strs_low,flds_low,scts_low,funs_low,h1,exs_low]) ?_ h
        show kQ E _ (endQ [⟨6,some (some 2)⟩,⟨7,none⟩] _) .norm { lvl := 0,tmps := mk 76 [(0,.agg m.c),(1,.vs fs (flds sc)),(2,.agg [.int .i64 7,.int .i64 o,.str nm,.int .i64 x,.vs fl (exs as)])],heap := [[none,none,none,none,none]],defers := [] }
        have pu35 : pureB E 35 = true := rfl
        repeat' first | ((with_reducible first | refine cS ?_ ?_ | refine oS ?_ ?_ | refine dS ?_ ?_) <;> intro _) | ((with_reducible refine kk ?_ ?_); · rfl) | (simp -implicitDefEqProofs (disch := first | omega | assumption) only [push_cast,simprocAttr,eqTop,eqShL,eqSh,K_seq,arity_ok,repl_tys]) | ((with_reducible first | refine cB ?_ ?_ | refine oB ?_ ?_ | refine dB ?_ ?_) <;> intro _)
        rw [hnil]
        with_reducible refine ext_loop m hm (fs := fs) sc 7 o x nm fl as has hrec (argsF m sc (takesF m 7 nm) as) ?_ ?_ as [] [] _ _ _ rfl hin rfl ?_ ?_ ?_ ?_ ?_ ?_ ?_ ?_
        all_goals first
          | (simp [look,look_keepL]; done)
          | skip
        · intro t acc rest o2 o3 c hc k6 k7
          rw [hc]
          repeat' first | ((with_reducible first | refine cS ?_ ?_ | refine oS ?_ ?_ | refine dS ?_ ?_) <;> intro _) | ((with_reducible refine kk ?_ ?_); · rfl) | (simp -implicitDefEqProofs (disch := first | omega | assumption) only [push_cast,simprocAttr,eqTop,eqShL,eqSh,K_seq,k6,k7]) | ((with_reducible first | refine cB ?_ ?_ | refine oB ?_ ?_ | refine dB ?_ ?_) <;> intro _)
        · intro t acc rest o2 o3 hr hf k1 k3 k5 k6 k8
          have hlen := args_len hf
          have hacc : acc.length ≤ 1048576 := by omega
          rw [hf]
          repeat' first | ((with_reducible first | refine cS ?_ ?_ | refine oS ?_ ?_ | refine dS ?_ ?_) <;> intro _) | ((with_reducible refine kk ?_ ?_); · rfl) | (simp -implicitDefEqProofs (disch := first | omega | assumption) only [push_cast,simprocAttr,eqTop,eqShL,eqSh,K_seq,k1,k3,k5,k6,k8,h1,node_own,hm,hsc,ha0,hlen,has,hr,List.length_nil,List.replicate_zero]) | ((with_reducible first | refine cB ?_ ?_ | refine oB ?_ ?_ | refine dB ?_ ?_) <;> intro _)
          all_goals rename_i hz
          all_goals first
            | (simp [outF,hz]; done)
            | (have hz' := Decidable.not_not.1 hz; simp [outF,hz']; done)
            | trace_state
      · have ha' := ha.symm
        refine call_pure (pf := p11) rfl rfl rfl rfl (by simp [PV.lowL,PV.low,strs_low,flds_low,scts_low,funs_low,h1,exs_low]) (by simp [PV.low,PV.lowL,strs_low,flds_low,scts_low,funs_low,h1,exs_low]) ?_ h
        show kQ E _ (endQ [⟨6,some (some 2)⟩,⟨7,none⟩] _) .norm { lvl := 0,tmps := mk 76 [(0,.agg m.c),(1,.vs fs (flds sc)),(2,.agg [.int .i64 k,.int .i64 o,.str nm,.int .i64 x,.vs fl (exs as)])],heap := [[none,none,none,none,none]],defers := [] }
        have pu35 : pureB E 35 = true := rfl
        repeat' first | ((with_reducible first | refine cS ?_ ?_ | refine oS ?_ ?_ | refine dS ?_ ?_) <;> intro _) | ((with_reducible refine kk ?_ ?_); · rfl) | (simp -implicitDefEqProofs (disch := first | omega | assumption) only [push_cast,simprocAttr,eqTop,eqShL,eqSh,K_seq,arity_ok,ha',repl_tys]) | ((with_reducible first | refine cB ?_ ?_ | refine oB ?_ ?_ | refine dB ?_ ?_) <;> intro _)
        all_goals
          rw [hnil]
          with_reducible refine ext_loop m hm (fs := fs) sc k o x nm fl as has hrec (argsF m sc (takesF m k nm) as) ?_ ?_ as [] [] _ _ _ rfl hin rfl ?_ ?_ ?_ ?_ ?_ ?_ ?_ ?_
          all_goals first
            | (simp [look,look_keepL]; done)
            | skip
          · intro t acc rest o2 o3 c hc k6 k7
            rw [hc]
            repeat' first | ((with_reducible first | refine cS ?_ ?_ | refine oS ?_ ?_ | refine dS ?_ ?_) <;> intro _) | ((with_reducible refine kk ?_ ?_); · rfl) | (simp -implicitDefEqProofs (disch := first | omega | assumption) only [push_cast,simprocAttr,eqTop,eqShL,eqSh,K_seq,k6,k7]) | ((with_reducible first | refine cB ?_ ?_ | refine oB ?_ ?_ | refine dB ?_ ?_) <;> intro _)
          · intro t acc rest o2 o3 hr hf k1 k3 k5 k6 k8
            have hlen := args_len hf
            have hacc : acc.length ≤ 1048576 := by omega
            rw [hf]
            repeat' first | ((with_reducible first | refine cS ?_ ?_ | refine oS ?_ ?_ | refine dS ?_ ?_) <;> intro _) | ((with_reducible refine kk ?_ ?_); · rfl) | (simp -implicitDefEqProofs (disch := first | omega | assumption) only [push_cast,simprocAttr,eqTop,eqShL,eqSh,K_seq,k1,k3,k5,k6,k8,h1,node_own,hm,hsc,ha0,hlen,has,hr,List.length_nil,List.replicate_zero]) | ((with_reducible first | refine cB ?_ ?_ | refine oB ?_ ?_ | refine dB ?_ ?_) <;> intro _)
            all_goals rename_i hz
            all_goals first
              | (simp [outF,hz]; done)
              | (have hz' := Decidable.not_not.1 hz; simp [outF,hz']; done)
              | trace_state
def Ty.Cl (t : Ty) : Prop := t.kind ≠ 8 → t.name = []
def Ty.Kn (t : Ty) : Prop := 1 ≤ t.kind ∧ t.kind ≤ 8
end Go.VI.S
