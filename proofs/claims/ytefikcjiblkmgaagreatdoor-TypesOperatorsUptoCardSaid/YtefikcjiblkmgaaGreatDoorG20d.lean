/- Chapter 20: a pair of expressions as an argument. -/
import Derived.Test.YtefikcjiblkmgaaGreatDoorG20c
set_option maxRecDepth 100000
set_option linter.unusedVariables false
namespace Go.VI.S
open Go.VI Go.Proofs
theorem epair_arg {pv : PV} (h : HasTy Tryz.prog 50 pv.cells) (hA : ∃ dd,Tryz.prog.underlying 50 = some dd ∧ pv.isAgg = isA dd) : ∃ a b : Ex,pv = .agg (a.c ++ b.c) := by
  obtain ⟨Ls,hLs,hl,hM⟩ := h.array_inv Tryz.underlying50
  match Ls,hl with
  | [x,y],_ =>
    obtain ⟨a,rfl⟩ := ex_of _ (Nat.le_refl _) (hM x (by simp))
    obtain ⟨b,rfl⟩ := ex_of _ (Nat.le_refl _) (hM y (by simp))
    obtain ⟨d,hd,hA⟩ := hA
    rw [Tryz.underlying50] at hd
    simp only [Option.some.injEq] at hd
    subst hd
    exact ⟨a,b,by rw [agg_of hA,hLs]; simp⟩
theorem epair_size {a b : Ex} (h : pbulk (.agg (a.c ++ b.c)) ≤ 1048576) : a.size + b.size ≤ 1048575 := by
  have := ex_bulk a
  have := ex_bulk b
  simp only [pbulk,pbulkL_app] at h
  omega
end Go.VI.S
