/- Chapter 16: rotations; the law AssembleRotate, evaluated. -/
import Derived.Test.YteodaifeknghaaaF16a
set_option maxRecDepth 100000
set_option linter.unusedSimpArgs false
namespace Go.VI.S
open Go.VI
def kF (n : Int) : Int := (n.tmod 3 + 3).tmod 3
def rotK (k a b c : Int) : PV := if k = 0 then tri a b c else if k = 1 then tri b c a else tri c a b
theorem rotK_low {k a b c : Int} : (rotK k a b c).low 0 = true := by unfold rotK; (repeat' split) <;> exact tri_low
theorem kF_cases (n : Int) : kF n = 0 ∨ kF n = 1 ∨ kF n = 2 := by
  unfold kF
  rcases tmod3 n with h | h | h | h | h <;> rw [h] <;> decide
theorem rot_ok (a b c n : Int) (h : Heap) : doCall E (callR E) 23 [tri a b c,.int .i64 n] h = some (rotK (kF n) a b c,h) := by
  refine call_pure (pf := p23) rfl rfl rfl rfl (by simp [PV.lowL,PV.low,tri_low,rotK_low]) (by simp [PV.low,PV.lowL,tri_low,rotK_low]) ?_ h
  show kQ E _ (endQ [⟨4,some (some 3)⟩] _) .norm { lvl := 0,tmps := mk 24 [(0,tri a b c),(1,.int .i64 n)],heap := [[none]],defers := [] }
  unfold kF tri
  rcases tmod3 n with h1 | h1 | h1 | h1 | h1
  all_goals
    repeat' first | ((with_reducible first | refine cS ?_ ?_ | refine oS ?_ ?_ | refine dS ?_ ?_) <;> intro _) | ((with_reducible refine kk ?_ ?_); · rfl) | (simp -implicitDefEqProofs (disch := first | omega | assumption) only [push_cast,simprocAttr,eqTop,eqShL,eqSh,K_seq,h1]) | ((with_reducible first | refine cB ?_ ?_ | refine oB ?_ ?_ | refine dB ?_ ?_) <;> intro _)
  all_goals rfl
def dirF (a b c x y : Int) : Bool := decide ((a = x ∧ b = y) ∨ (b = x ∧ c = y) ∨ (c = x ∧ a = y))
theorem dir_ok (a b c x y : Int) (h : Heap) : doCall E (callR E) 24 [tri a b c,.int .i64 x,.int .i64 y] h = some (.bool (dirF a b c x y),h) := by
  refine call_pure (pf := p24) rfl rfl rfl rfl (by simp [PV.lowL,PV.low,tri_low]) (by simp [PV.low,PV.lowL,tri_low]) ?_ h
  show kQ E _ (endQ [⟨6,none⟩] _) .norm { lvl := 0,tmps := mk 41 [(0,tri a b c),(1,.int .i64 x),(2,.int .i64 y)],heap := [[]],defers := [] }
  unfold tri
  repeat' first | ((with_reducible first | refine cS ?_ ?_ | refine oS ?_ ?_ | refine dS ?_ ?_) <;> intro _) | ((with_reducible refine kk ?_ ?_); · rfl) | (simp -implicitDefEqProofs (disch := first | omega | assumption) only [push_cast,simprocAttr,eqTop,eqShL,eqSh,K_seq]) | ((with_reducible first | refine cB ?_ ?_ | refine oB ?_ ?_ | refine dB ?_ ?_) <;> intro _)
  all_goals (simp only [dirF,PV.bool.injEq,true_eq_decide_iff,false_eq_decide_iff,decide_eq_decide]; omega)
theorem ex_ok (h : Heap) : doCall E (callR E) 19 [] h = some (.bool true,h) :=
  call_closed (E := E) (k := 200) (pf := p19) (b := true) rfl rfl (by kernel_rfl) h
theorem kF_mod (n : Int) : kF (n.tmod 3) = kF n := by
  unfold kF
  rcases tmod3 n with h | h | h | h | h <;> rw [h] <;> decide
theorem kF_add (n m : Int) : kF (n.tmod 3 + m.tmod 3) = (if kF n + kF m < 3 then kF n + kF m else kF n + kF m - 3) := by
  unfold kF
  rcases tmod3 n with h | h | h | h | h <;> rcases tmod3 m with h' | h' | h' | h' | h' <;> rw [h,h'] <;> decide
set_option maxHeartbeats 2000000 in
theorem law7 (a b c n m : Int) (h : Heap) : doCall E (callR E) 7 [tri a b c,.int .i64 n,.int .i64 m] h = some (.bool true,h) := by
  refine call_pure (pf := p7) rfl rfl rfl rfl (by simp [PV.lowL,PV.low,tri_low]) (by simp [PV.low,PV.lowL,tri_low]) ?_ h
  show kQ E _ (endQ [⟨6,none⟩] _) .norm { lvl := 0,tmps := mk 72 [(0,tri a b c),(1,.int .i64 n),(2,.int .i64 m)],heap := [[none]],defers := [] }
  have pu23 : pureB E 23 = true := rfl
  have b1 := tmod3 n
  have b2 := tmod3 m
  have k0 : kF 0 = 0 := rfl
  have k1 : kF 1 = 1 := rfl
  have k2 : kF (-2) = 1 := rfl
  rcases kF_cases n with h1 | h1 | h1
  all_goals rcases kF_cases m with h2 | h2 | h2
  all_goals unfold tri
  all_goals
    repeat' first | ((with_reducible first | refine cS ?_ ?_ | refine oS ?_ ?_ | refine dS ?_ ?_) <;> intro _) | ((with_reducible refine kk ?_ ?_); · rfl) | (simp -implicitDefEqProofs (disch := first | omega | assumption) only [push_cast,simprocAttr,eqTop,eqShL,eqSh,K_seq,h1,h2,rot_ok,dir_ok,ex_ok,kF_mod,kF_add,k0,k1,k2,rotK,dirF,or_self,and_self,and_false,or_true,true_or,true_and,and_true,false_or,or_false,eq_self_iff_true,exists_eq]) | ((with_reducible first | refine cB ?_ ?_ | refine oB ?_ ?_ | refine dB ?_ ?_) <;> intro _) | refine loopK' (c := p7l0) rfl ?_
end Go.VI.S
