/- Chapter 28: arguments of the laws, as VI's values. -/
import Derived.Test.YtjhaldbohblieaaGreatDoorI28
import Derived.Test.YtjhaldbohblieaaGreatDoorF28a
import Derived.Test.YtjhaldbohblieaaGreatDoorVC
set_option maxRecDepth 100000
namespace Go.VI.S
open Go.VI Go.Proofs
theorem ty_of {L:List PV} (h:HasTy Tryz.prog 46 L):∃ t:Ty,L=[.int .i64 t.kind,.str t.name]:=by
  obtain ⟨Ls,rfl,hl,hf⟩:=h.struct_inv Tryz.underlying46
  match Ls,hl with
  | [a,b],_ =>
    obtain ⟨k,rfl,_⟩:=(hf 0 _ _ rfl rfl).int_inv Tryz.underlying44
    obtain ⟨s,rfl,_⟩:=(hf 1 _ _ rfl rfl).str_inv Tryz.underlying9
    exact ⟨⟨k,s⟩,rfl⟩
theorem fld_of {L:List PV} (h:HasTy Tryz.prog 48 L):∃ f:Fld,L=[.str f.name,.int .i64 f.ty.kind,.str f.ty.name]:=by
  obtain ⟨Ls,rfl,hl,hf⟩:=h.struct_inv Tryz.underlying48
  match Ls,hl with
  | [a,b],_ =>
    obtain ⟨s,rfl,_⟩:=(hf 0 _ _ rfl rfl).str_inv Tryz.underlying9
    obtain ⟨t,rfl⟩:=ty_of (hf 1 _ _ rfl rfl)
    exact ⟨⟨s,t⟩,rfl⟩
theorem agg_elem {t:TypeId} {fs:Array Field} (hu:Tryz.prog.underlying t=some (.struct fs)) {v:PV} (hA:∃ d,Tryz.prog.underlying t=some d∧v.isAgg=isA d):v=.agg v.cells:=by
  obtain ⟨d,hd,hA⟩:=hA
  rw [hu] at hd
  simp only [Option.some.injEq] at hd
  subst hd
  exact agg_of hA
theorem list_of {α:Type} (f:α→PV) {l:List PV} (h1:∀ v∈l,∃ a,v=f a):∃ xs:List α,l=xs.map f:=by
  induction l with
  | nil=>exact ⟨[],rfl⟩
  | cons v l ih =>
    obtain ⟨a,rfl⟩:=h1 v (List.mem_cons_self ..)
    obtain ⟨xs,rfl⟩:=ih fun x hx=>h1 x (List.mem_cons_of_mem _ hx)
    exact ⟨a::xs,rfl⟩
theorem flds_of {L:List PV} (h:HasTy Tryz.prog 24 L):∃ (f:Fl) (l:List Fld),L=[.vs f (flds l)]:=by
  obtain ⟨f,l,rfl,_,h1,h2⟩:=h.slice_inv Tryz.underlying24
  obtain ⟨xs,rfl⟩:=list_of Fld.v fun v hv=>by
    obtain ⟨a,ha⟩:=fld_of (h1 v hv)
    exact ⟨a,by rw [agg_elem Tryz.underlying48 (h2 v hv),ha]⟩
  exact ⟨f,xs,rfl⟩
theorem strs_of {L:List PV} (h:HasTy Tryz.prog 25 L):∃ (f:Fl) (l:List Str),L=[.vs f (strs l)]:=by
  obtain ⟨f,l,rfl,_,h1,h2⟩:=h.slice_inv Tryz.underlying25
  obtain ⟨xs,rfl⟩:=list_of PV.str fun v hv=>by
    obtain ⟨a,ha,_⟩:=(h1 v hv).str_inv Tryz.underlying9
    obtain ⟨d,hd,hA⟩:=h2 v hv
    rw [Tryz.underlying9] at hd
    simp only [Option.some.injEq] at hd
    subst hd
    exact ⟨a,one_cell ha (by rw [hA];rfl)⟩
  exact ⟨f,xs,rfl⟩
theorem sct_of {L:List PV} (h:HasTy Tryz.prog 60 L):∃ s:Sct,L=[.str s.name,.vs s.fl (flds s.fs)]:=by
  obtain ⟨Ls,rfl,hl,hf⟩:=h.struct_inv Tryz.underlying60
  match Ls,hl with
  | [a,b],_ =>
    obtain ⟨s,rfl,_⟩:=(hf 0 _ _ rfl rfl).str_inv Tryz.underlying9
    obtain ⟨f,l,rfl⟩:=flds_of (hf 1 _ _ rfl rfl)
    exact ⟨⟨s,f,l⟩,rfl⟩
theorem scts_of {L:List PV} (h:HasTy Tryz.prog 23 L):∃ (f:Fl) (l:List Sct),L=[.vs f (scts l)]:=by
  obtain ⟨f,l,rfl,_,h1,h2⟩:=h.slice_inv Tryz.underlying23
  obtain ⟨xs,rfl⟩:=list_of Sct.v fun v hv=>by
    obtain ⟨a,ha⟩:=sct_of (h1 v hv)
    exact ⟨a,by rw [agg_elem Tryz.underlying60 (h2 v hv),ha]⟩
  exact ⟨f,xs,rfl⟩
theorem pbulk_pos (v:PV):1≤pbulk v:=by cases v<;>simp [pbulk]
theorem Y2:∀ l:List PV,l.length≤pbulkL l
  | []=>Nat.le_refl _
  | v::l=>by have:=pbulk_pos v;have:=Y2 l;simp [pbulkL];omega
theorem pbulkL_mem {v:PV}:∀ {l:List PV},v∈l→pbulk v≤pbulkL l
  | [],h=>by cases h
  | w::l,h=>by
    rcases List.mem_cons.1 h with rfl|h
    · simp [pbulkL]
    · have:=pbulkL_mem h;simp [pbulkL];omega
theorem pbulkL_app:∀ a b:List PV,pbulkL (a++b)=pbulkL a+pbulkL b
  | [],b=>by simp [pbulkL]
  | x::a,b=>by simp [pbulkL,pbulkL_app a b];omega
theorem ex_of:∀ (n:Nat) {L:List PV},pbulkL L≤n→HasTy Tryz.prog 65 L→∃ e:Ex,L=e.c:=by
  intro n
  induction n with
  | zero =>
    intro L hb h
    obtain ⟨Ls,rfl,hl,hf⟩:=h.struct_inv Tryz.underlying65
    match Ls,hl with
    | [a,b,c,d,e],_ =>
      obtain ⟨_,rfl,_⟩:=(hf 0 _ _ rfl rfl).int_inv Tryz.underlying61
      simp [pbulkL,pbulk] at hb
  | succ n ih =>
    intro L hb h
    obtain ⟨Ls,rfl,hl,hf⟩:=h.struct_inv Tryz.underlying65
    match Ls,hl with
    | [a,b,c,d,e],_ =>
      obtain ⟨k,rfl,_⟩:=(hf 0 _ _ rfl rfl).int_inv Tryz.underlying61
      obtain ⟨o,rfl,_⟩:=(hf 1 _ _ rfl rfl).int_inv Tryz.underlying62
      obtain ⟨s,rfl,_⟩:=(hf 2 _ _ rfl rfl).str_inv Tryz.underlying9
      obtain ⟨x,rfl,_⟩:=(hf 3 _ _ rfl rfl).int_inv Tryz.underlying3
      obtain ⟨f,l,rfl,_,h1,h2⟩:=(hf 4 _ _ rfl rfl).slice_inv Tryz.underlying63
      simp [pbulkL,pbulk] at hb
      obtain ⟨xs,rfl⟩:=list_of (fun e:Ex=>PV.agg e.c) fun v hv=>by
        have hm:=pbulkL_mem hv
        have hA:=agg_elem Tryz.underlying65 (h2 v hv)
        have hp:pbulk v=pbulkL v.cells+1:=by rw [hA];rfl
        obtain ⟨e,he⟩:=ih (by omega) (h1 v hv)
        exact ⟨e,by rw [hA,he]⟩
      exact ⟨.mk k o s x f xs,by simp [Ex.c,exs_map]⟩
theorem st_of:∀ (n:Nat) {L:List PV},pbulkL L≤n→HasTy Tryz.prog 80 L→∃ s:St,L=s.c:=by
  intro n
  induction n with
  | zero =>
    intro L hb h
    obtain ⟨Ls,rfl,hl,hf⟩:=h.struct_inv Tryz.underlying80
    match Ls,hl with
    | [a,b,c,d,e,f,g,i],_ =>
      obtain ⟨_,rfl,_⟩:=(hf 0 _ _ rfl rfl).int_inv Tryz.underlying78
      simp [pbulkL,pbulk] at hb
  | succ n ih =>
    intro L hb h
    obtain ⟨Ls,rfl,hl,hf⟩:=h.struct_inv Tryz.underlying80
    match Ls,hl with
    | [a,b,c,d,e,f,g,i],_ =>
      obtain ⟨k,rfl,_⟩:=(hf 0 _ _ rfl rfl).int_inv Tryz.underlying78
      obtain ⟨s,rfl,_⟩:=(hf 1 _ _ rfl rfl).str_inv Tryz.underlying9
      obtain ⟨t,rfl⟩:=ty_of (hf 2 _ _ rfl rfl)
      obtain ⟨tg,rfl⟩:=ex_of _ (Nat.le_refl _) (hf 3 _ _ rfl rfl)
      obtain ⟨v,rfl⟩:=ex_of _ (Nat.le_refl _) (hf 4 _ _ rfl rfl)
      obtain ⟨x,rfl,_⟩:=(hf 5 _ _ rfl rfl).int_inv Tryz.underlying3
      obtain ⟨f1,l1,rfl,_,h1,h2⟩:=(hf 6 _ _ rfl rfl).slice_inv Tryz.underlying27
      obtain ⟨f2,l2,rfl,_,h3,h4⟩:=(hf 7 _ _ rfl rfl).slice_inv Tryz.underlying27
      simp [pbulkL,pbulk,pbulkL_app] at hb
      have go:∀ (l:List PV),pbulkL l≤n→(∀ v∈l,HasTy Tryz.prog 80 v.cells)→(∀ v∈l,∃ d,Tryz.prog.underlying 80=some d∧v.isAgg=isA d)→∃ xs:List St,l=xs.map fun s=>PV.agg s.c:=by
        intro l hn g1 g2
        exact list_of (fun s:St=>PV.agg s.c) fun v hv=>by
          have hm:=pbulkL_mem hv
          have hA:=agg_elem Tryz.underlying80 (g2 v hv)
          have hp:pbulk v=pbulkL v.cells+1:=by rw [hA];rfl
          obtain ⟨e,he⟩:=ih (by omega) (g1 v hv)
          exact ⟨e,by rw [hA,he]⟩
      obtain ⟨b1,rfl⟩:=go l1 (by omega) h1 h2
      obtain ⟨b2,rfl⟩:=go l2 (by omega) h3 h4
      exact ⟨.mk k s t tg v x f1 b1 f2 b2,by simp [St.c,sts_map]⟩
theorem sts_of {L:List PV} (h:HasTy Tryz.prog 27 L):∃ (f:Fl) (l:List St),L=[.vs f (sts l)]:=by
  obtain ⟨f,l,rfl,_,h1,h2⟩:=h.slice_inv Tryz.underlying27
  obtain ⟨xs,rfl⟩:=list_of (fun s:St=>PV.agg s.c) fun v hv=>by
    obtain ⟨e,he⟩:=st_of _ (Nat.le_refl _) (h1 v hv)
    exact ⟨e,by rw [agg_elem Tryz.underlying80 (h2 v hv),he]⟩
  exact ⟨f,xs,by rw [sts_map]⟩
theorem fun_of {L:List PV} (h:HasTy Tryz.prog 67 L):∃ f:Fun',L=.str f.name::.vs f.fl (flds f.ps)::.int .i64 f.res.kind::.str f.res.name::.vs f.fb f.body::f.ret:=by
  obtain ⟨Ls,rfl,hl,hf⟩:=h.struct_inv Tryz.underlying67
  match Ls,hl with
  | [a,b,c,d,e],_ =>
    obtain ⟨s,rfl,_⟩:=(hf 0 _ _ rfl rfl).str_inv Tryz.underlying9
    obtain ⟨fl,l,rfl⟩:=flds_of (hf 1 _ _ rfl rfl)
    obtain ⟨t,rfl⟩:=ty_of (hf 2 _ _ rfl rfl)
    obtain ⟨fb,body,rfl⟩:=sts_of (hf 3 _ _ rfl rfl)
    obtain ⟨e,rfl⟩:=ex_of _ (Nat.le_refl _) (hf 4 _ _ rfl rfl)
    exact ⟨⟨s,fl,l,t,fb,body,e⟩,by simp [Fun'.body,Fun'.ret]⟩
theorem funs_of {L:List PV} (h:HasTy Tryz.prog 26 L):∃ (f:Fl) (l:List Fun'),L=[.vs f (funs l)]:=by
  obtain ⟨f,l,rfl,_,h1,h2⟩:=h.slice_inv Tryz.underlying26
  obtain ⟨xs,rfl⟩:=list_of Fun'.v fun v hv=>by
    obtain ⟨a,ha⟩:=fun_of (h1 v hv)
    exact ⟨a,by rw [agg_elem Tryz.underlying67 (h2 v hv),ha]⟩
  exact ⟨f,xs,rfl⟩
theorem mod_of {L:List PV} (h:HasTy Tryz.prog 29 L):∃ m:Mod,L=m.c:=by
  obtain ⟨Ls,rfl,hl,hf⟩:=h.struct_inv Tryz.underlying29
  match Ls,hl with
  | [a,b,c,d,e,f,g,i,j],_ =>
    obtain ⟨k,rfl,_⟩:=(hf 0 _ _ rfl rfl).int_inv Tryz.underlying22
    obtain ⟨_,_,rfl⟩:=scts_of (hf 1 _ _ rfl rfl)
    obtain ⟨_,_,rfl⟩:=flds_of (hf 2 _ _ rfl rfl)
    obtain ⟨_,_,rfl⟩:=strs_of (hf 3 _ _ rfl rfl)
    obtain ⟨_,_,rfl⟩:=strs_of (hf 4 _ _ rfl rfl)
    obtain ⟨_,_,rfl⟩:=flds_of (hf 5 _ _ rfl rfl)
    obtain ⟨_,_,rfl⟩:=flds_of (hf 6 _ _ rfl rfl)
    obtain ⟨_,_,rfl⟩:=funs_of (hf 7 _ _ rfl rfl)
    obtain ⟨fb,body,rfl⟩:=sts_of (hf 8 _ _ rfl rfl)
    exact ⟨⟨k,_,_,_,_,_,_,_,_,_,_,_,_,_,_,fb,body⟩,rfl⟩
theorem mod_ok {m:Mod} (h:pbulk (.agg m.c)≤1048576):m.Ok:=by
  simp only [pbulk,pbulkL] at h
  have a1:=Y2 (scts m.ss)
  have a2:=Y2 (flds m.us)
  have a3:=Y2 (strs m.ts)
  have a4:=Y2 (strs m.bs)
  have a5:=Y2 (flds m.ins)
  have a6:=Y2 (flds m.outs)
  have a7:=Y2 (funs m.fs)
  rw [scts_len] at a1
  rw [flds_len] at a2 a5 a6
  rw [strs_len] at a3 a4
  rw [funs_len] at a7
  refine ⟨by omega,by omega,by omega,by omega,by omega,by omega,by omega,fun s hs=>?_,fun f hf=>?_⟩
  · have b:=pbulkL_mem (v:=s.v) (l:=scts m.ss) (List.mem_map_of_mem hs)
    have c:=Y2 (flds s.fs)
    rw [flds_len] at c
    simp only [pbulk,pbulkL] at b
    omega
  · have b:=pbulkL_mem (v:=f.v) (l:=funs m.fs) (List.mem_map_of_mem hf)
    have c:=Y2 (flds f.ps)
    rw [flds_len] at c
    simp only [pbulk,pbulkL] at b
    omega
theorem mod_arg {pv:PV} (h:HasTy Tryz.prog 29 pv.cells) (hA:∃ dd,Tryz.prog.underlying 29=some dd∧pv.isAgg=isA dd):∃ m:Mod,pv=.agg m.c:=by
  obtain ⟨m,hm⟩:=mod_of h
  exact ⟨m,by rw [agg_elem Tryz.underlying29 hA,hm]⟩
theorem globs_ok {W:World} {laid:List (String × DataW Unit)} (hL:laidMet Tryz.prog laid W) (h0:("frustum/types.words",.slice (wordsL.map fun s=>.lit (.string s)) [])∈laid) (h1:("frustum/types.builtins",.slice (builtinsL.map fun s=>.lit (.string s)) [])∈laid)
    (h2:("frustum/lexer.otherWords",.slice (otherL.map fun s=>.lit (.string s)) [])∈laid) (h3:("frustum/lexer.typeWords",.slice (wordsL.map fun s=>.lit (.string s)) [])∈laid) :
    ∀ i v,g.G i=some v→IRel (fun b=>b<W.heap.size) W v (.pointer (some ⟨i,0,none⟩)):=by
  intro i v hi
  have hlt:i<4∧v=.ip [.vs .any (strs (globL i))]:=by
    unfold PG.G at hi
    split at hi
    · rename_i h
      have h':Nat.blt i 4=true:=h
      simp only [Option.some.injEq] at hi
      exact ⟨by simp [Nat.blt] at h';omega,hi.symm⟩
    · cases hi
  obtain ⟨hlt,rfl⟩:=hlt
  match i,hlt with
  | 0,_=>exact glob_strs hL h2 (by kernel_rfl) (t:=25) (by kernel_rfl) Tryz.underlying25 Tryz.underlying9 (by kernel_rfl) (by decide)
  | 1,_=>exact glob_strs hL h1 (by kernel_rfl) (t:=25) (by kernel_rfl) Tryz.underlying25 Tryz.underlying9 (by kernel_rfl) (by decide)
  | 2,_=>exact glob_strs hL h3 (by kernel_rfl) (t:=25) (by kernel_rfl) Tryz.underlying25 Tryz.underlying9 (by kernel_rfl) (by decide)
  | 3,_=>exact glob_strs hL h0 (by kernel_rfl) (t:=25) (by kernel_rfl) Tryz.underlying25 Tryz.underlying9 (by kernel_rfl) (by decide)
end Go.VI.S
