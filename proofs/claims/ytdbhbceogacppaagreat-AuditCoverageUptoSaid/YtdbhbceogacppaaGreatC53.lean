/- The law AuditCoverage of its chapter returns true for every input and leaves its arguments as they were. Asked: what is read of the arguments is of bulk at most 1048576. -/
import Derived.Test.YtdbhbceogacppaaGreatF53j
import Derived.Test.YtdbhbceogacppaaGreatI53
import Derived.Test.YtdbhbceogacppaaGreatG53
import Derived.Test.YtdbhbceogacppaaGreatRows
import Derived.JoinedOf
import Derived.JoinedCond
import Derived.JoinedAt
import Derived.OpenShut
import Derived.ProofKit
import Derived.WalkKit
set_option maxRecDepth 100000
set_option linter.unusedVariables false
namespace Go.Proofs.YtdbhbceogacppaaGreat.AuditCoverage
open Go.ChangeShapes Go.WideShapes Go.ChangeAt Go.RowKit Go.VI Go.VI.S
theorem bulk_eq {H:Type} (l:List (DataW H)):Rows.uptoBulkAll l=dbulkAll l:=by
  have h:@Rows.uptoBulkAll H=@dbulkAll H:=by kernel_rfl
  rw [h]
theorem contract (H:Type) (enc:TypeId × Value→H) (W:World) (base:Nat) (args:Array Value) (ds gs:List (DataW H)) (before:List MemPlace)
    (hval:∀ (j:Nat) t v,Tryz.f3.params[j]?=some t→args[j]?=some v→Value.okWide Tryz.prog W .any base t v)
    (hW:DataW.Whole enc Tryz.prog Tryz.f3.params.toList Rows.auditCoverageSpec.vars false W args.toList ds gs before)
    (hk:Rows.uptoSmall H (ds++gs)=true) :
    Calls Tryz.prog 3 args W fun e W'=>∃ v,e=.returned v∧Rows.auditCoverageSpec.post enc Tryz.prog Tryz.f3 false true false false W args v W':=by
  have hW':=hW
  obtain ⟨p,q,hA0,hV,rfl,hfz,hnd⟩:=hW
  have hA:DataW.TrodAll enc Tryz.prog W 0 (fun _=>true) true Tryz.f3.params.toList args.toList ds p:=hA0
  rw [Tryz.params3] at hA hval
  obtain ⟨v0,vs0,d0,ds0,p0,q0,hargs,rfl,rfl,h0,r0⟩:=trodAll_cons hA
  obtain ⟨v1,vs1,d1,ds1,p1,q1,rfl,rfl,rfl,h1,r1⟩:=trodAll_cons r0
  obtain ⟨rfl,rfl,rfl⟩:=trodAll_nil r1
  obtain rfl:args=#[v0,v1]:=by cases args;simp_all
  obtain ⟨rfl,rfl⟩:=trodVars_none hV
  have hk2:dbulkAll ([d0,d1]++[])≤1048576:=by rw [← bulk_eq];simpa [Rows.uptoSmall] using hk
  simp only [List.append_nil,dbulkAll] at hk2
  obtain ⟨x0,t0,a0,i0,b0⟩:=arg_irel laidO mapsR fullS (of_decide_eq_true (by kernel_rfl)) h0 (.inr ⟨_,hval 0 27 v0 rfl rfl⟩)
  obtain ⟨x1,t1,a1,i1,b1⟩:=arg_irel laidO mapsR fullS (of_decide_eq_true (by kernel_rfl)) h1 (.inr ⟨_,hval 1 29 v1 rfl rfl⟩)
  obtain ⟨T0,rfl⟩:=tri_arg t0 a0
  have hb0:=tri_bulk (t:=T0) (by omega)
  obtain ⟨x1,y1,z1,rfl⟩:=area_arg t1 a1
  have hc:=law_calls g_ok (law3 T0 hb0 x1 y1 z1 []) (fun _=>rfl) (vs:=#[v0,v1]) (W:=W) rfl (fun i v u hv hu=>by
    match i with
    | 0=>simp at hv hu;subst hv hu;exact i0
    | 1=>simp at hv hu;subst hv hu;exact i1
    | i+2=>simp at hv)
  refine callsMono hc fun e W' ⟨he,hk⟩=>⟨.bool true,he,?_⟩
  exact (post_true laidO mapsR fullS (fun t ht=>by rw [Tryz.params3] at ht;exact of_decide_eq_true (List.all_eq_true.1 (show ([27,29].all fun t=>decide (t<Tryz.prog.types.size))=true by kernel_rfl) t ht)) rfl hW' hk rfl rfl rfl (tb:=4) (by kernel_rfl) Tryz.underlying4).1
set_option maxRecDepth 100000 in
theorem lifted (os:Os) (started:os.Started) (H:Type) (enc:TypeId × Value→H) (F:Stop.Interp) :
    ReturnsInHanded {} Tryz.checked os 3 .any ((Rows.OpenSpec.upto Rows.auditCoverageSpec).pre6 enc Tryz.prog Tryz.f3 Rows.auditCoverageUptoRow.domain false) (((Rows.OpenSpec.upto Rows.auditCoverageSpec).at F).post enc Tryz.prog Tryz.f3 false true false false):=by
  refine returnsInHanded_of_cond (C:=Tryz.checked) (s:=Rows.OpenSpec.upto Rows.auditCoverageSpec) (k:=Rows.uptoSmall) rfl own started (by kernel_rfl) Tryz.func3
    (OpenSpec.witness (enc:=enc) (C:=Tryz.checked) (s:=Rows.OpenSpec.upto Rows.auditCoverageSpec) (k:=Rows.uptoSmall) rfl false ⟨#[],#[.agg #[.int .i64 0,.int .i64 0,.int .i64 0,.int .i64 0,.slice none 0 0,.int .i64 0,.int .i64 0,.int .i64 0,.int .i64 0,.slice none 0 0,.int .i64 0,.int .i64 0,.int .i64 0,.int .i64 0,.slice none 0 0,.int .i64 0,.bool false],.agg #[.int .i64 0,.int .i64 0,.int .i64 0]],[]⟩ 8 (by kernel_rfl) (by kernel_rfl) (by kernel_rfl)
      (x:=([.agg [.agg [.agg [.lit (.int .i64 0),.lit (.int .i64 0),.lit (.int .i64 0),.lit (.int .i64 0),.nil],.agg [.lit (.int .i64 0),.lit (.int .i64 0),.lit (.int .i64 0),.lit (.int .i64 0),.nil],.agg [.lit (.int .i64 0),.lit (.int .i64 0),.lit (.int .i64 0),.lit (.int .i64 0),.nil]],.lit (.int .i64 0),.lit (.bool false)],.agg [.lit (.int .i64 0),.lit (.int .i64 0),.lit (.int .i64 0)]],[],[])) (by kernel_rfl) rfl (by kernel_rfl)) ?_
  intro W base args ds gs before hval hW _ hk _
  exact contract H enc W base args ds gs before hval hW hk
theorem holds:Rows.AuditCoverageUptoSaid :=
  OpenClaim.holds_of_cond 3 Tryz.f3 rfl rfl rfl rfl rfl rfl rfl ⟨rfl,rfl,rfl,rfl,rfl⟩ rfl rfl rfl rfl rfl (by kernel_rfl) Tryz.func3 (by kernel_rfl)
    (of_decide_eq_true (by kernel_rfl)) (by unfold Func.isWrapper;first|(rw [if_pos (by decide +kernel)];kernel_rfl)|(rw [if_neg (by decide +kernel)];exact ⟨rfl,rfl⟩))
    (fun os started H enc _ F=>lifted os started H enc F)
end Go.Proofs.YtdbhbceogacppaaGreat.AuditCoverage
