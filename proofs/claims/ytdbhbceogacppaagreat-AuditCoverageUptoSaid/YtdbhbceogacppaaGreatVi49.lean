/- Rules without fuel: deferred calls; calls above memory that is shared. -/
import Derived.Test.YtdbhbceogacppaaGreatVC
set_option linter.unusedSimpArgs false
set_option linter.unusedVariables false
namespace Go.VI
variable {E:Env} {ks:List KI} {Q:PEx→Fr→Prop}
section
variable {h0 r:Heap} {B L M:List (Option Ob)} {i:Nat} {o:Ob}
end
def endK (rs:List RV) (P:PV→Heap→Prop):PEx→Fr→Prop:=fun ex fr=>(match ex with|.exit _=>False|_=>True)∧fr.defers=[]∧∃ rr,resultsE fr.heap fr.tmps rs=some rr∧P rr fr.heap
theorem endK_ret {rs:List RV} {L:Nat} {P:PV→Heap→Prop} {T:List PV} {h:Heap} {rr:PV} (h1:resultsE h T rs=some rr) (h2:P rr h):endK rs P .ret { lvl:=L,tmps:=T,heap:=h,defers:=[] }:=⟨trivial,rfl,rr,h1,h2⟩
theorem call_keep {f:Nat} {pf:PFn} {args:List PV} {c:PC} {h:Heap} {P:PV→Heap→Prop} (hpf:E.pf f=some pf) (hp:pf.pure=false) (hk:pf.keep=true) (hb:pf.body=.cln (List.range args.length) c) (hn:args.length=pf.nparams)
    (hw:kQ E [.code c] (endK pf.results P) .norm { lvl:=h.length,tmps:=mk (args.length+(pf.ntmps - pf.nparams)) (enum 0 args),heap:=h++[List.replicate pf.nobjs none],defers:=[] }) (he:pf.ext=none:=by rfl) :
    ∃ rr H,doCall E (callR E) f args h=some (rr,H)∧P rr H:=by
  have hw':kQ E [.code pf.body] (endK pf.results P) .norm { lvl:=h.length,tmps:=args++List.replicate (pf.ntmps - pf.nparams) (.tuple []),heap:=h++[List.replicate pf.nobjs none],defers:=[] }:=by
    rw [hb,K_cln]
    simp only [start_eq]
    exact hw
  obtain ⟨ex,fr,h1,hex,hd,rr,hres,hP⟩:=Yc (wpE_of hw')
  have hcall:Evt fun k=>callN E k f args h=some (rr,fr.heap):=by
    refine .succ ((h1.and (defN_marks (E:=E) fr.defers fr.heap (by rw [hd];rfl))).mono fun k hk=>?_)
    simp only [callN,hpf,he,hn,if_true]
    rw [hk.1]
    cases ex with
    | exit id=>exact hex.elim
    | norm=>simp only [hk.2,hres]
    | ret=>simp only [hk.2,hres]
  exact ⟨rr,_,by simp only [doCall,hpf,hp,hk,callR_of hcall,Bool.false_eq_true,if_false,if_true],hP⟩
end Go.VI
