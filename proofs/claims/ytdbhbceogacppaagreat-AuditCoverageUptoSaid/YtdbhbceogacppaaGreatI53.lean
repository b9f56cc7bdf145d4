/- Chapter 53: the seat's program is what VI evaluates. -/
import Derived.Test.YtdbhbceogacppaaGreatF53a
import Derived.Test.YtdbhbceogacppaaGreatVC
import Derived.Test.YtdbhbceogacppaaGreatChecked
import Derived.KernelRfl
set_option maxRecDepth 100000
namespace Go.VI.S
open Go.VI Go.Proofs
noncomputable def g0 (MC:PC→Code→Prop) (lo:Nat):PG:={ P:=Tryz.prog,E:=E,GL:=fun _=>false,MC:=MC,lo:=lo }
theorem checkL (M:PC→Code→Prop) (lo:Nat):(table.all fun x=>(g0 M lo).fnOK x.1 x.2)=true:=by kernel_rfl
theorem tree_mem {n:Nat} {a:PFn}:∀ {t:Tr},t.get n=some a→(n,a)∈t.list
  | .e,h=>by simp [Tr.get] at h
  | .l m p,h=>by
    simp only [Tr.get,cond_eq_ite] at h
    split at h
    · rename_i e
      simp only [Option.some.injEq] at h
      have:=Nat.eq_of_beq_eq_true e
      subst this h
      simp [Tr.list]
    · cases h
  | .n k a b,h=>by
    simp only [Tr.get,cond_eq_ite] at h
    simp only [Tr.list,List.mem_append]
    split at h
    · exact .inl (tree_mem h)
    · exact .inr (tree_mem h)
theorem fns (M:PC→Code→Prop) (lo:Nat):FnsM (g0 M lo):=fun f p h=>List.all_eq_true.1 (checkL M lo) (f,p) (tree_mem h)
theorem indep (M M':PC→Code→Prop) (lo lo':Nat):(g0 M lo).matchC=(g0 M' lo').matchC:=by kernel_rfl
def mc:PC→Code→Prop:=fun p x=>(g0 (fun _ _=>False) 0).matchC true p x=true
noncomputable def g:PG:=g0 mc 0
theorem noext:(table.all fun x=>x.2.ext.isNone)=true:=by kernel_rfl
theorem g_ok:g.OK where
  ext f p val hp hx:=by
    have:=List.all_eq_true.1 noext (f,p) (tree_mem hp)
    simp only [hx] at this
    cases this
  fns lo:=fns mc lo
  mc p x:=⟨fun h lo=>by rw [show (g.at lo).matchC=(g0 (fun _ _=>False) 0).matchC from indep _ _ _ _];exact h,fun h=>by have:=h 0;rw [show (g.at 0).matchC=(g0 (fun _ _=>False) 0).matchC from indep _ _ _ _] at this;exact this⟩
  indep p x lo lo' h:=by rw [show (g.at lo').matchC=(g.at lo).matchC from indep _ _ _ _];exact h
theorem own:ownKnob Tryz.prog.godebug=none:=by kernel_rfl
theorem laidO:laidOutB Tryz.prog=true:=by kernel_rfl
theorem mapsR:mapsRowed Tryz.prog=true:=by kernel_rfl
theorem fullS:∀ t e,t<Tryz.prog.types.size→Tryz.prog.underlying t=some (.slice e)→0<Tryz.prog.cellsOf e:=slices_full_of Tryz.prog (by kernel_rfl)
end Go.VI.S
