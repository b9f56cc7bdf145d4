/- The law LinkComponents of its chapter returns true for every input and leaves its arguments as they were. Asked: what is read of the arguments is of bulk at most 1048576; the listed package-level variables hold what the program lays. -/
import Derived.Test.YtjhaldbohblieaaGreatDoorW28
import Derived.Test.YtjhaldbohblieaaGreatDoorG28e
import Derived.Test.YtjhaldbohblieaaGreatDoorG28l
import Derived.Test.YtjhaldbohblieaaGreatDoorML
import Derived.Test.YtjhaldbohblieaaGreatDoorRows
import Derived.Test.YtjhaldbohblieaaGreatDoorCards
import Derived.Test.YtjhaldbohblieaaGreatDoorTie
import Derived.JoinedOf
import Derived.JoinedCond
import Derived.JoinedAt
import Derived.OpenShut
import Derived.ProofKit
import Derived.WalkKit
import Derived.LaidLaws
import Derived.Deep.DeepHandedRow
import Derived.Deep.DeepWitnessRowRef
set_option maxRecDepth 100000
set_option linter.unusedVariables false
namespace Go.Proofs.YtjhaldbohblieaaGreatDoor.LinkComponents
open Go.ChangeShapes Go.WideShapes Go.ChangeAt Go.RowKit Go.VI Go.VI.S
theorem Rn {H:Type} (l:List (DataW H)):Rows.uptoBulkAll l=dbulkAll l:=by
  have h:@Rows.uptoBulkAll H=@dbulkAll H:=by kernel_rfl
  rw [h]
theorem contract (H:Type) (enc:TypeId × Value→H) (W:World) (base:Nat) (args:Array Value) (ds gs:List (DataW H)) (before:List MemPlace)
    (hval:∀ (j:Nat) t v,Tryz.f5.params[j]?=some t→args[j]?=some v→Value.okWide Tryz.prog W .any base t v)
    (hW:DataW.Whole enc Tryz.prog Tryz.f5.params.toList Rows.linkComponentsSpec.vars false W args.toList ds gs before) (hL:laidMet Tryz.prog Rows.linkComponentsUptoRow.laid W)
    (hk:Rows.uptoSmall H (ds++gs)=true) :
    Calls Tryz.prog 5 args W fun e W'=>∃ v,e=.returned v∧Rows.linkComponentsSpec.post enc Tryz.prog Tryz.f5 false true false false W args v W':=by
  have hW':=hW
  obtain ⟨p,q,hA0,hV,rfl,hfz,hnd⟩:=hW
  have hA:DataW.TrodAll enc Tryz.prog W 0 (fun _=>true) true Tryz.f5.params.toList args.toList ds p:=hA0
  rw [Tryz.params5] at hA hval
  obtain ⟨v0,vs0,d0,ds0,p0,q0,hargs,rfl,rfl,h0,r0⟩:=trodAll_cons hA
  obtain ⟨rfl,rfl,rfl⟩:=trodAll_nil r0
  obtain rfl:args=#[v0]:=by cases args;simp_all
  obtain ⟨rfl,rfl⟩:=trodVars_none hV
  have hk2:dbulkAll ([d0]++[])≤1048576:=by rw [← Rn];simpa [Rows.uptoSmall] using hk
  simp only [List.append_nil,dbulkAll] at hk2
  obtain ⟨x0,t0,a0,i0,b0⟩:=arg_irel laidO mapsR fullS (of_decide_eq_true (by kernel_rfl)) h0 (.inr ⟨_,hval 0 31 v0 rfl rfl⟩)
  obtain ⟨m0,n0,rfl⟩:=Ti t0 a0
  have hbm0:pbulk (.agg m0.c)≤1048576:=by simp only [pbulk,pbulkL_app] at b0 ⊢;omega
  have hbn0:pbulk (.agg n0.c)≤1048576:=by simp only [pbulk,pbulkL_app] at b0 ⊢;omega
  have hzm0:=Ur hbm0
  have hzn0:=Ur hbn0
  have hc:=law_callsG g_ok (law5 m0 n0 (mod_ok hbm0) (mod_ok hbn0) ⟨by omega⟩ ⟨by omega⟩ (V4 hbm0) (V4 hbn0) (out_ok hbm0) []) (vs:=#[v0]) (W:=W) (globs_ok hL (.tail _ (.tail _ (.tail _ (.head _)))) (.tail _ (.tail _ (.head _))) (.tail _ (.head _)) (.head _)) rfl (fun i v u hv hu=>by
    match i with
    | 0=>simp at hv hu;subst hv hu;exact i0
    | i+1=>simp at hv)
  refine callsMono hc fun e W' ⟨he,hk⟩=>⟨.bool true,he,?_⟩
  exact (post_true laidO mapsR fullS (fun t ht=>by rw [Tryz.params5] at ht;exact of_decide_eq_true (List.all_eq_true.1 (show ([31].all fun t=>decide (t<Tryz.prog.types.size))=true by kernel_rfl) t ht)) rfl hW' hk rfl rfl rfl (tb:=4) (by kernel_rfl) Tryz.underlying4).1
noncomputable def V1:Array Value:=#[.agg #[.int .i64 0,.slice none 0 0,.slice none 0 0,.slice none 0 0,.slice none 0 0,.slice none 0 0,.slice none 0 0,.slice none 0 0,.slice none 0 0,.int .i64 0,.slice none 0 0,.slice none 0 0,.slice none 0 0,.slice none 0 0,.slice none 0 0,.slice none 0 0,.slice none 0 0,.slice none 0 0]]
theorem V0 (os:Os) {H:Type} (enc:TypeId × Value→H) :
    (Rows.OpenSpec.upto Rows.linkComponentsSpec).preRow enc Tryz.prog Tryz.f5 Rows.linkComponentsUptoRow.domain false Rows.linkComponentsUptoRow.laid ((laidWorld os).forCall (fun _ _=>0) ⟨#[],V1,[]⟩).memory V1:=by
  have hw:(DataW.whole enc Tryz.prog ((laidWorld os).forCall (fun _ _=>0) ⟨#[],V1,[]⟩).memory Tryz.f5.params.toList Rows.linkComponentsSpec.vars false V1.toList 8).map (fun x=>(x.1,x.2.1))=some ([.agg [.agg [.lit (.int .i64 0),.nil,.nil,.nil,.nil,.nil,.nil,.nil,.nil],.agg [.lit (.int .i64 0),.nil,.nil,.nil,.nil,.nil,.nil,.nil,.nil]]],[]):=by kernel_rfl
  obtain ⟨⟨x1,x2,x3⟩,hx,hx1⟩:=Option.map_eq_some_iff.1 hw
  simp only [Prod.mk.injEq] at hx1
  obtain ⟨rfl,rfl⟩:=hx1
  exact OpenSpec.preRow_of_cond 8 hx (by kernel_rfl) (fun k hk=>by cases hk;kernel_rfl) (by kernel_rfl) (laid_met os _)
set_option maxRecDepth 100000 in
theorem lifted (os:Os) (started:os.Started) (H:Type) (enc:TypeId × Value→H) (F:Stop.Interp) :
    ReturnsInHanded {} Tryz.checked os 5 .any ((Rows.OpenSpec.upto Rows.linkComponentsSpec).preRow enc Tryz.prog Tryz.f5 Rows.linkComponentsUptoRow.domain false Rows.linkComponentsUptoRow.laid) (((Rows.OpenSpec.upto Rows.linkComponentsSpec).at F).post enc Tryz.prog Tryz.f5 false true false false):=by
  refine returnsInHanded_of_row (C:=Tryz.checked) (s:=Rows.OpenSpec.upto Rows.linkComponentsSpec) own started (by kernel_rfl) Tryz.func5
    (witness_row_atRef (enc:=enc) (C:=Tryz.checked) false (laidWorld os) V1 rfl (by kernel_rfl) (by kernel_rfl) (by kernel_rfl) (V0 os enc)) ?_
  intro W base args ds gs before hval hW _ hcond _ hL _ _
  exact contract H enc W base args ds gs before hval hW hL (hcond _ rfl)
theorem said:Rows.LinkComponentsUptoSaid :=
  OpenClaim.holds_of_cond 5 Tryz.f5 rfl rfl rfl rfl rfl rfl rfl ⟨rfl,rfl,rfl,rfl,rfl⟩ rfl rfl rfl rfl rfl (by kernel_rfl) Tryz.func5 (by kernel_rfl)
    (of_decide_eq_true (by kernel_rfl)) (by unfold Func.isWrapper;first|(rw [if_pos (by decide +kernel)];kernel_rfl)|(rw [if_neg (by decide +kernel)];exact ⟨rfl,rfl⟩))
    (fun os started H enc _ F=>by rw [OpenClaim.pre_eq_preRow];exact lifted os started H enc F)
theorem plain (f:FuncId) (fn:Func) (hf:Tryz.pinned.checked.prog.funcNamed "frustum/frustumlaw28.LinkComponents" = some f) (hfn:Tryz.pinned.checked.prog.funcs[f]?=some fn) :
    false=Tryz.pinned.checked.prog.looks []∧∀ (j:Nat) t,fn.params[j]?=some t→Tryz.pinned.checked.prog.wantsStandIn t=false:=by
  obtain rfl:f=5:=Option.some.inj ((show Tryz.prog.funcNamed "frustum/frustumlaw28.LinkComponents" = some 5 by kernel_rfl).symm.trans hf) |>.symm
  obtain rfl:fn=Tryz.f5:=(Option.some.inj (Tryz.func5.symm.trans hfn)).symm
  refine ⟨by kernel_rfl,fun j t ht=>?_⟩
  rw [Tryz.params5] at ht
  have hall:([31].all fun t=>!Tryz.prog.wantsStandIn t)=true:=by kernel_rfl
  have hmem:t∈[31]:=by simpa using Array.mem_of_getElem? ht
  have h2:Tryz.prog.wantsStandIn t=false:=by simpa using List.all_eq_true.1 hall t hmem
  exact h2
theorem holds:Rows.LinkComponentsUptoCardSaid :=
  Claim7.holds_tied_plain_at .later [] _ _ _ _ said (fun _ h=>by cases h) (by kernel_rfl) (fun _ h=>by cases h) linkComponentsUpto_row_tie rfl ⟨rfl,rfl⟩ (by kernel_rfl) rfl plain (by kernel_rfl)
end Go.Proofs.YtjhaldbohblieaaGreatDoor.LinkComponents
