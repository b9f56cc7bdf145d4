/- Chapter 16: what the simple functions say. -/
import Derived.Test.YteodaifeknghaaaF16n
import Derived.KernelRfl
set_option maxRecDepth 100000
set_option linter.unusedSimpArgs false
namespace Go.VI.S
open Go.VI
def validF (n : Int) : Bool := decide (1 ≤ n ∧ n ≤ 3)
theorem valid_ok (n : Int) (h : Heap) : doCall E (callR E) 17 [.int .i64 n] h = some (.bool (validF n),h) := by
  refine call_pure (pf := p17) rfl rfl rfl rfl (by simp [PV.lowL,PV.low]) (by simp [PV.low,PV.lowL]) ?_ h
  show kQ E _ (endQ [⟨2,none⟩] _) .norm { lvl := 0,tmps := mk 9 [(0,.int .i64 n)],heap := [[]],defers := [] }
  repeat' first | ((with_reducible first | refine cS ?_ ?_ | refine oS ?_ ?_ | refine dS ?_ ?_) <;> intro _) | ((with_reducible refine kk ?_ ?_); · rfl) | (simp -implicitDefEqProofs (disch := first | omega | assumption) only [push_cast,simprocAttr,eqTop,eqShL,eqSh,K_seq]) | ((with_reducible first | refine cB ?_ ?_ | refine oB ?_ ?_ | refine dB ?_ ?_) <;> intro _)
  all_goals simp only [validF,PV.bool.injEq,Bool.false_eq,decide_eq_false_iff_not,decide_eq_decide]; omega
theorem rvalid_ok (n : Int) (h : Heap) : doCall E (callR E) 18 [.int .i64 n] h = some (.bool (validF n),h) := by
  refine call_pure (pf := p18) rfl rfl rfl rfl (by simp [PV.lowL,PV.low]) (by simp [PV.low,PV.lowL]) ?_ h
  show kQ E _ (endQ [⟨2,none⟩] _) .norm { lvl := 0,tmps := mk 13 [(0,.int .i64 n)],heap := [[]],defers := [] }
  repeat' first | ((with_reducible first | refine cS ?_ ?_ | refine oS ?_ ?_ | refine dS ?_ ?_) <;> intro _) | ((with_reducible refine kk ?_ ?_); · rfl) | (simp -implicitDefEqProofs (disch := first | omega | assumption) only [push_cast,simprocAttr,eqTop,eqShL,eqSh,K_seq]) | ((with_reducible first | refine cB ?_ ?_ | refine oB ?_ ?_ | refine dB ?_ ?_) <;> intro _)
  all_goals simp only [validF,PV.bool.injEq,Bool.true_eq,decide_eq_true_eq,decide_eq_decide]; omega
def countF (t n : Int) : Int := if n < 0 ∨ ¬ (1 ≤ t ∧ t ≤ 3) then 0 else if t = 1 then n / 3 else if n < 2 then 0 else n - 2
theorem tdiv3 {n : Int} (h : 0 ≤ n) : n.tdiv 3 = n / 3 := Int.tdiv_eq_ediv_of_nonneg h
theorem tmod2 {n : Int} (h : 0 ≤ n) : n.tmod 2 = n % 2 := Int.tmod_eq_emod_of_nonneg h
theorem count_ok (t n : Int) (hn : n ≤ 9223372036854775807) (h : Heap) : doCall E (callR E) 15 [.int .i64 t,.int .i64 n] h = some (.int .i64 (countF t n),h) := by
  refine call_pure (pf := p15) rfl rfl rfl rfl (by simp [PV.lowL,PV.low]) (by simp [PV.low,PV.lowL]) ?_ h
  show kQ E _ (endQ [⟨4,none⟩] _) .norm { lvl := 0,tmps := mk 21 [(0,.int .i64 t),(1,.int .i64 n)],heap := [[]],defers := [] }
  repeat' first | ((with_reducible first | refine cS ?_ ?_ | refine oS ?_ ?_ | refine dS ?_ ?_) <;> intro _) | ((with_reducible refine kk ?_ ?_); · rfl) | (simp -implicitDefEqProofs (disch := first | omega | assumption) only [push_cast,simprocAttr,eqTop,eqShL,eqSh,K_seq,valid_ok,validF,tdiv3]) | ((with_reducible first | refine cB ?_ ?_ | refine oB ?_ ?_ | refine dB ?_ ?_) <;> intro _)
  all_goals (unfold countF; congr 1; (repeat' split) <;> omega)
theorem rcount_ok (t n : Int) (hn : n ≤ 9223372036854775807) (h : Heap) : doCall E (callR E) 16 [.int .i64 t,.int .i64 n] h = some (.int .i64 (countF t n),h) := by
  refine call_pure (pf := p16) rfl rfl rfl rfl (by simp [PV.lowL,PV.low]) (by simp [PV.low,PV.lowL]) ?_ h
  show kQ E _ (endQ [⟨4,none⟩] _) .norm { lvl := 0,tmps := mk 19 [(0,.int .i64 t),(1,.int .i64 n)],heap := [[]],defers := [] }
  repeat' first | ((with_reducible first | refine cS ?_ ?_ | refine oS ?_ ?_ | refine dS ?_ ?_) <;> intro _) | ((with_reducible refine kk ?_ ?_); · rfl) | (simp -implicitDefEqProofs (disch := first | omega | assumption) only [push_cast,simprocAttr,eqTop,eqShL,eqSh,K_seq,rvalid_ok,validF,tdiv3]) | ((with_reducible first | refine cB ?_ ?_ | refine oB ?_ ?_ | refine dB ?_ ?_) <;> intro _)
  all_goals (unfold countF; congr 1; (repeat' split) <;> omega)
def ints (zs : List Int) : List PV := zs.map (PV.int .i64)
def at' (zs : List Int) (i : Int) : Int := zs.getD i.toNat 0
theorem ints_len {zs : List Int} : (ints zs).length = zs.length := by simp [ints]
theorem ints_get {zs : List Int} {j : Int} (h0 : 0 ≤ j) (h1 : j < zs.length) : (ints zs)[j.toNat]? = some (.int .i64 (at' zs j)) := by
  have : j.toNat < zs.length := by omega
  simp [ints,at',List.getElem?_eq_getElem this]
theorem ints_get0 {zs : List Int} (h1 : 0 < (zs.length : Int)) : (ints zs)[0]? = some (.int .i64 (at' zs 0)) := ints_get (j := 0) (Int.le_refl _) h1
abbrev tri (a b c : Int) : PV := .agg [.int .i64 a,.int .i64 b,.int .i64 c]
def triF (t : Int) (zs : List Int) (i : Int) : PV × Bool :=
  if i < 0 ∨ countF t zs.length ≤ i then (tri 0 0 0,false)
  else if t = 1 then (tri (at' zs (3 * i)) (at' zs (3 * i + 1)) (at' zs (3 * i + 2)),true)
  else if t = 3 then (tri (at' zs 0) (at' zs (i + 1)) (at' zs (i + 2)),true)
  else if i % 2 = 1 then (tri (at' zs i) (at' zs (i + 2)) (at' zs (i + 1)),true)
  else (tri (at' zs i) (at' zs (i + 1)) (at' zs (i + 2)),true)
theorem count_le (t : Int) (n : Nat) : countF t n ≤ n := by unfold countF; (repeat' split) <;> omega
theorem tri_low {a b c : Int} : (tri a b c).low 0 = true := by simp [tri,PV.low,PV.lowL]
theorem triF_low (t i : Int) (zs : List Int) : (triF t zs i).1.low 0 = true := by unfold triF; (repeat' split) <;> exact tri_low
theorem count_idx (t i : Int) (n : Nat) : i < 0 ∨ countF t n ≤ i ∨ (t = 1 ∧ 3 * i + 2 < n) ∨ (t ≠ 1 ∧ i + 2 < n) := by
  unfold countF
  (repeat' split) <;> omega
set_option maxHeartbeats 4000000 in
theorem tri_ok (t i : Int) (f : Fl) (zs : List Int) (hn : (zs.length : Int) ≤ 9223372036854775807) (h : Heap) :
    doCall E (callR E) 10 [.int .i64 t,.vs f (ints zs),.int .i64 i] h = some (.tuple [(triF t zs i).1,.bool (triF t zs i).2],h) := by
  refine call_pure (pf := p10) rfl rfl rfl rfl (by simp [PV.lowL,PV.low,triF_low]) (by simp [PV.low,PV.lowL,triF_low]) ?_ h
  show kQ E _ (endQ [⟨6,some (some 3)⟩,⟨7,none⟩] _) .norm { lvl := 0,tmps := mk 91 [(0,.int .i64 t),(1,.vs f (ints zs)),(2,.int .i64 i)],heap := [[none]],defers := [] }
  have hb := count_idx t i zs.length
  repeat' first | ((with_reducible first | refine cS ?_ ?_ | refine oS ?_ ?_ | refine dS ?_ ?_) <;> intro _) | ((with_reducible refine kk ?_ ?_); · rfl) | (simp -implicitDefEqProofs (disch := first | omega | assumption) only [push_cast,simprocAttr,eqTop,eqShL,eqSh,K_seq,count_ok,ints_len,tmod2,ints_get,ints_get0]) | ((with_reducible first | refine cB ?_ ?_ | refine oB ?_ ?_ | refine dB ?_ ?_) <;> intro _)
  all_goals (unfold triF; (repeat' split) <;> first | rfl | omega)
end Go.VI.S
