/- Rules without fuel: deferred calls; calls above memory that is shared. -/
import Derived.Test.YtjhaldbohblieaaGreatDoorVC
set_option linter.unusedSimpArgs false
set_option linter.unusedVariables false
namespace Go.VI
variable {E:Env} {ks:List KI} {Q:PEx→Fr→Prop}
def dfrR (E:Env) (f:Nat) (args:List PV) (h:Heap) (v:PV) (h':Heap):Prop:=Evt fun k=>doCall E (callD E k) f args h=some (v,h')
def dfsR (E:Env) (ds:List (Option (Nat × List PV))) (h h':Heap):Prop:=Evt fun k=>defN E k ds h=some h'
theorem dfs_nil {h:Heap}:dfsR E [] h h:=X4 (E:=E) [] h rfl
theorem dfs_one {f:Nat} {a:List PV} {h h':Heap} {v:PV} (hd:dfrR E f a h v h'):dfsR E [some (f,a)] h h':=by
  refine .succ ((hd.and (X4 (E:=E) [] h' rfl)).mono fun k hk=>?_)
  simp only [defN,hk.1,hk.2]
def endD (E:Env) (rs:List RV) (r:PV) (lv:Nat) (h':Heap):PEx→Fr→Prop:=fun ex fr=>(match ex with|.exit _=>False|_=>True)∧∃ h2,dfsR E fr.defers fr.heap h2∧resultsE h2 fr.tmps rs=some r∧heapLow lv (h2.take lv)=true∧h'=h2.take lv
section
variable {h0 r:Heap} {B L M:List (Option Ob)} {i:Nat} {o:Ob}
theorem z_len:(h0++B::r).length=h0.length+1+r.length:=by simp;omega
theorem z_app:(h0++B::r)++[L]=h0++B::(r++[L]):=by simp
theorem zg_b:hget (h0++B::r) (h0.length,i)=(B[i]?).bind id:=by simp [hget]
theorem zs_b:hset (h0++B::r) (h0.length,i) o=h0++B.set i (some o)::r:=by
  unfold hset
  induction h0 with
  | nil=>rfl
  | cons x h0 ih=>simpa using ih
theorem z_get {n:Nat}:(h0++B::r)[h0.length+1+n]?=r[n]?:=by
  rw [List.getElem?_append_right (by omega)]
  have:h0.length+1+n - h0.length=n+1:=by omega
  rw [this];rfl
theorem z_mod {n:Nat} {f:List (Option Ob)→List (Option Ob)}:(h0++B::r).modify (h0.length+1+n) f=h0++B::r.modify n f:=by
  induction h0 with
  | nil=>rw [List.length_nil,Nat.zero_add,Nat.add_comm];rfl
  | cons x h0 ih =>
    have:(x::h0).length+1+n=(h0.length+1+n)+1:=by simp;omega
    rw [this]
    show x::(h0++B::r).modify (h0.length+1+n) f=_
    rw [ih];rfl
theorem zg_t:hget (h0++B::(r++[L])) (h0.length+1+r.length,i)=(L[i]?).bind id:=by
  unfold hget
  rw [z_get]
  simp
theorem zg_m:hget (h0++B::((r++[M])++[L])) (h0.length+1+r.length,i)=(M[i]?).bind id:=by
  unfold hget
  rw [z_get]
  simp
theorem zs_t:hset (h0++B::(r++[L])) (h0.length+1+r.length,i) o=h0++B::(r++[L.set i (some o)]):=by
  unfold hset
  rw [z_mod]
  congr 2
  induction r with
  | nil=>rfl
  | cons x r ih=>simpa using ih
theorem zd_t:(h0++B::(r++[L])).getD (h0.length+1+r.length) []=L:=by
  rw [List.getD_eq_getElem?_getD,z_get]
  simp
theorem zt_t:(h0++B::(r++[L])).take (h0.length+1+r.length)=h0++B::r:=by
  rw [← z_app,← z_len,List.take_left]
end
theorem call_impZ {h0 r:Heap} {B:List (Option Ob)} {f:Nat} {pf:PFn} {args:List PV} {rr:PV} {c:PC} {h':Heap} (hpf:E.pf f=some pf) (hp:pf.pure=false) (hk:pf.keep=false) (hb:pf.body=.cln (List.range args.length) c) (hn:args.length=pf.nparams) (hr:rr.low (h0.length+1+r.length)=true)
    (hw:kQ E [.code c] (endM pf.results rr (h0.length+1+r.length) h') .norm { lvl:=h0.length+1+r.length,tmps:=mk (args.length+(pf.ntmps - pf.nparams)) (enum 0 args),heap:=h0++B::(r++[List.replicate pf.nobjs none]),defers:=[] }) (he:pf.ext=none:=by rfl) :
    doCall E (callR E) f args (h0++B::r)=some (rr,h'):=by
  refine Z7 hpf hp hk hb hn (by rw [z_len];exact hr) ?_ he
  rw [z_len,z_app]
  exact hw
def endG (lv:Nat) (h':Heap):PEx→Fr→Prop:=fun ex fr=>(match ex with|.exit _=>False|_=>True)∧fr.defers=[]∧heapLow lv (fr.heap.take lv)=true∧h'=fr.heap.take lv
theorem endG_norm {lv L:Nat} {h':Heap} {T:List PV} {h:Heap}:endG lv h' .norm { lvl:=L,tmps:=T,heap:=h,defers:=[] }=(heapLow lv (h.take lv)=true∧h'=h.take lv):=by simp [endG]
theorem dfr_of {h0 r:Heap} {B:List (Option Ob)} {f:Nat} {pf:PFn} {args:List PV} {c:PC} {h':Heap} (hpf:E.pf f=some pf) (hp:pf.pure=false) (hk:pf.keep=false) (hrs:pf.results=[]) (hb:pf.body=.cln (List.range args.length) c) (hn:args.length=pf.nparams)
    (hw:kQ E [.code c] (endG (h0.length+1+r.length) h') .norm { lvl:=h0.length+1+r.length,tmps:=mk (args.length+(pf.ntmps - pf.nparams)) (enum 0 args),heap:=h0++B::(r++[List.replicate pf.nobjs none]),defers:=[] }) (he:pf.ext=none:=by rfl) :
    dfrR E f args (h0++B::r) (.tuple []) h':=by
  have hw':kQ E [.code pf.body] (endG (h0.length+1+r.length) h') .norm { lvl:=(h0++B::r).length,tmps:=args++List.replicate (pf.ntmps - pf.nparams) (.tuple []),heap:=(h0++B::r)++[List.replicate pf.nobjs none],defers:=[] }:=by
    rw [hb,K_cln]
    simp only [start_eq]
    rw [z_len,z_app]
    exact hw
  obtain ⟨ex,fr,h1,hex,hd,hl,hh⟩:=Yl (wpE_of hw')
  have hl':heapLow (h0++B::r).length (fr.heap.take (h0++B::r).length)=true:=by rw [z_len];exact hl
  refine .succ (h1.mono fun k hk1=>?_)
  have hcd:callD E (k+1) f args (h0++B::r)=some (.tuple [],fr.heap):=by
    simp only [callD,hpf,he,hn,Option.isNone_none,and_self,if_true]
    rw [hk1]
    cases ex with
    | exit id=>exact hex.elim
    | norm=>simp [hd,hrs,resultsE,mapO]
    | ret=>simp [hd,hrs,resultsE,mapO]
  simp only [doCall,hpf,hp,hk,hcd,pop,Bool.false_eq_true,if_false]
  simp only [snap,PV.low,PV.lowL,if_true,hl']
  rw [z_len,hh]
def endX (rs:List RV) (lv:Nat) (P:PV→Heap→Prop):PEx→Fr→Prop:=fun ex fr=>∃ rr h',endM rs rr lv h' ex fr∧rr.low lv=true∧P rr h'
def endXD (E:Env) (rs:List RV) (lv:Nat) (P:PV→Heap→Prop):PEx→Fr→Prop:=fun ex fr=>∃ rr h',endD E rs rr lv h' ex fr∧rr.low lv=true∧P rr h'
theorem call_impXD {h0 r:Heap} {B:List (Option Ob)} {f:Nat} {pf:PFn} {args:List PV} {c:PC} {P:PV→Heap→Prop} (hpf:E.pf f=some pf) (hp:pf.pure=false) (hk:pf.keep=false) (hb:pf.body=.cln (List.range args.length) c) (hn:args.length=pf.nparams)
    (hw:kQ E [.code c] (endXD E pf.results (h0.length+1+r.length) P) .norm { lvl:=h0.length+1+r.length,tmps:=mk (args.length+(pf.ntmps - pf.nparams)) (enum 0 args),heap:=h0++B::(r++[List.replicate pf.nobjs none]),defers:=[] }) (he:pf.ext=none:=by rfl) :
    ∃ rr h',doCall E (callR E) f args (h0++B::r)=some (rr,h')∧P rr h':=by
  have hw':kQ E [.code pf.body] (endXD E pf.results (h0.length+1+r.length) P) .norm { lvl:=(h0++B::r).length,tmps:=args++List.replicate (pf.ntmps - pf.nparams) (.tuple []),heap:=(h0++B::r)++[List.replicate pf.nobjs none],defers:=[] }:=by
    rw [hb,K_cln]
    simp only [start_eq]
    rw [z_len,z_app]
    exact hw
  obtain ⟨ex,fr,h1,rr,h',⟨hex,h2,hdef,hres,hl,rfl⟩,h3,h4⟩:=Yl (wpE_of hw')
  have hcall:Evt fun k=>callN E k f args (h0++B::r)=some (rr,h2):=by
    refine .succ ((h1.and hdef).mono fun k hk=>?_)
    simp only [callN,hpf,he,hn,if_true]
    rw [hk.1]
    cases ex with
    | exit id=>exact hex.elim
    | norm=>simp only [hk.2,hres]
    | ret=>simp only [hk.2,hres]
  have this:snap h2 (h0++B::r).length 4 rr=some rr:=by rw [z_len];simp [snap,h3]
  have hl':heapLow (h0++B::r).length (h2.take (h0++B::r).length)=true:=by rw [z_len];exact hl
  refine ⟨rr,_,?_,h4⟩
  simp only [doCall,hpf,hp,hk,callR_of hcall,pop,this,hl',Bool.false_eq_true,if_false,if_true]
  rw [z_len]
theorem endX_ret {rs:List RV} {lv L:Nat} {P:PV→Heap→Prop} {T:List PV} {h:Heap} {rr:PV} (h1:resultsE h T rs=some rr) (h2:heapLow lv (h.take lv)=true) (h3:rr.low lv=true) (h4:P rr (h.take lv)):endX rs lv P .ret { lvl:=L,tmps:=T,heap:=h,defers:=[] } :=
  ⟨rr,_,⟨trivial,rfl,h1,h2,rfl⟩,h3,h4⟩
theorem endXD_ret {rs:List RV} {lv L:Nat} {P:PV→Heap→Prop} {T:List PV} {h h2:Heap} {rr:PV} {ds:List (Option (Nat × List PV))} (hd:dfsR E ds h h2) (h1:resultsE h2 T rs=some rr) (hl:heapLow lv (h2.take lv)=true) (h3:rr.low lv=true) (h4:P rr (h2.take lv)):endXD E rs lv P .ret { lvl:=L,tmps:=T,heap:=h,defers:=ds } :=
  ⟨rr,_,⟨trivial,h2,hd,h1,hl,rfl⟩,h3,h4⟩
def endK (rs:List RV) (P:PV→Heap→Prop):PEx→Fr→Prop:=fun ex fr=>(match ex with|.exit _=>False|_=>True)∧fr.defers=[]∧∃ rr,resultsE fr.heap fr.tmps rs=some rr∧P rr fr.heap
theorem endK_ret {rs:List RV} {L:Nat} {P:PV→Heap→Prop} {T:List PV} {h:Heap} {rr:PV} (h1:resultsE h T rs=some rr) (h2:P rr h):endK rs P .ret { lvl:=L,tmps:=T,heap:=h,defers:=[] }:=⟨trivial,rfl,rr,h1,h2⟩
theorem call_keep {f:Nat} {pf:PFn} {args:List PV} {c:PC} {h:Heap} {P:PV→Heap→Prop} (hpf:E.pf f=some pf) (hp:pf.pure=false) (hk:pf.keep=true) (hb:pf.body=.cln (List.range args.length) c) (hn:args.length=pf.nparams)
    (hw:kQ E [.code c] (endK pf.results P) .norm { lvl:=h.length,tmps:=mk (args.length+(pf.ntmps - pf.nparams)) (enum 0 args),heap:=h++[List.replicate pf.nobjs none],defers:=[] }) (he:pf.ext=none:=by rfl) :
    ∃ rr H,doCall E (callR E) f args h=some (rr,H)∧P rr H:=by
  have hw':kQ E [.code pf.body] (endK pf.results P) .norm { lvl:=h.length,tmps:=args++List.replicate (pf.ntmps - pf.nparams) (.tuple []),heap:=h++[List.replicate pf.nobjs none],defers:=[] }:=by
    rw [hb,K_cln]
    simp only [start_eq]
    exact hw
  obtain ⟨ex,fr,h1,hex,hd,rr,hres,hP⟩:=Yl (wpE_of hw')
  have hcall:Evt fun k=>callN E k f args h=some (rr,fr.heap):=by
    refine .succ ((h1.and (X4 (E:=E) fr.defers fr.heap (by rw [hd];rfl))).mono fun k hk=>?_)
    simp only [callN,hpf,he,hn,if_true]
    rw [hk.1]
    cases ex with
    | exit id=>exact hex.elim
    | norm=>simp only [hk.2,hres]
    | ret=>simp only [hk.2,hres]
  exact ⟨rr,_,by simp only [doCall,hpf,hp,hk,callR_of hcall,Bool.false_eq_true,if_false,if_true],hP⟩
theorem call_impX1 {h:Heap} {f:Nat} {pf:PFn} {args:List PV} {c:PC} {P:PV→Heap→Prop} (hpf:E.pf f=some pf) (hp:pf.pure=false) (hk:pf.keep=false) (hb:pf.body=.cln (List.range args.length) c) (hn:args.length=pf.nparams)
    (hw:kQ E [.code c] (endX pf.results h.length P) .norm { lvl:=h.length,tmps:=mk (args.length+(pf.ntmps - pf.nparams)) (enum 0 args),heap:=h++[List.replicate pf.nobjs none],defers:=[] }) (he:pf.ext=none:=by rfl) :
    ∃ rr h',doCall E (callR E) f args h=some (rr,h')∧P rr h':=by
  have hw':kQ E [.code pf.body] (endX pf.results h.length P) .norm { lvl:=h.length,tmps:=args++List.replicate (pf.ntmps - pf.nparams) (.tuple []),heap:=h++[List.replicate pf.nobjs none],defers:=[] }:=by
    rw [hb,K_cln]
    simp only [start_eq]
    exact hw
  obtain ⟨ex,fr,h1,rr,h',⟨hex,hd,hres,hl,rfl⟩,h3,h4⟩:=Yl (wpE_of hw')
  have hcall:Evt fun k=>callN E k f args h=some (rr,fr.heap):=by
    refine .succ ((h1.and (X4 (E:=E) fr.defers fr.heap hd)).mono fun k hk=>?_)
    simp only [callN,hpf,he,hn,if_true]
    rw [hk.1]
    cases ex with
    | exit id=>exact hex.elim
    | norm=>simp only [hk.2,hres]
    | ret=>simp only [hk.2,hres]
  have this:snap fr.heap h.length 4 rr=some rr:=by simp [snap,h3]
  exact ⟨rr,_,by simp only [doCall,hpf,hp,hk,callR_of hcall,pop,this,hl,Bool.false_eq_true,if_false,if_true],h4⟩
theorem call_impX {h0 r:Heap} {B:List (Option Ob)} {f:Nat} {pf:PFn} {args:List PV} {c:PC} {P:PV→Heap→Prop} (hpf:E.pf f=some pf) (hp:pf.pure=false) (hk:pf.keep=false) (hb:pf.body=.cln (List.range args.length) c) (hn:args.length=pf.nparams)
    (hw:kQ E [.code c] (endX pf.results (h0.length+1+r.length) P) .norm { lvl:=h0.length+1+r.length,tmps:=mk (args.length+(pf.ntmps - pf.nparams)) (enum 0 args),heap:=h0++B::(r++[List.replicate pf.nobjs none]),defers:=[] }) (he:pf.ext=none:=by rfl) :
    ∃ rr h',doCall E (callR E) f args (h0++B::r)=some (rr,h')∧P rr h':=by
  refine call_impX1 (h:=h0++B::r) hpf hp hk hb hn ?_ he
  rw [z_len,z_app]
  exact hw
end Go.VI
