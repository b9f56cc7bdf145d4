/- The law AssembleEdges of its chapter returns true for every input and leaves its arguments as they were. Asked: what is read of the arguments is of bulk at most 1048576. -/
import Derived.Test.YteodaifeknghaaaF16s
import Derived.Test.YteodaifeknghaaaI16
import Derived.Test.YteodaifeknghaaaRows
import Derived.JoinedOf
import Derived.JoinedCond
import Derived.JoinedAt
import Derived.OpenShut
import Derived.ProofKit
import Derived.WalkKit
set_option maxRecDepth 100000
set_option linter.unusedVariables false
namespace Go.Proofs.Yteodaifeknghaaa.AssembleEdges
open Go.ChangeShapes Go.WideShapes Go.ChangeAt Go.RowKit Go.VI Go.VI.S
theorem bulk_eq {H : Type} (l : List (DataW H)) : Rows.uptoBulkAll l = dbulkAll l := by
  have h : @Rows.uptoBulkAll H = @dbulkAll H := by kernel_rfl
  rw [h]
theorem contract (H : Type) (enc : TypeId × Value → H) (W : World) (base : Nat) (args : Array Value) (ds gs : List (DataW H)) (before : List MemPlace)
    (hval : ∀ (j : Nat) t v,Try.f8.params[j]? = some t → args[j]? = some v → Value.okWide Try.prog W .any base t v)
    (hW : DataW.Whole enc Try.prog Try.f8.params.toList Rows.assembleEdgesSpec.vars false W args.toList ds gs before)
    (hk : Rows.uptoSmall H (ds ++ gs) = true) :
    Calls Try.prog 8 args W fun e W' => ∃ v,e = .returned v ∧ Rows.assembleEdgesSpec.post enc Try.prog Try.f8 false true false false W args v W' := by
  have hW' := hW
  obtain ⟨p,q,hA0,hV,rfl,hfz,hnd⟩ := hW
  have hA : DataW.TrodAll enc Try.prog W 0 (fun _ => true) true Try.f8.params.toList args.toList ds p := hA0
  rw [Try.params8] at hA hval
  obtain ⟨v0,vs0,d0,ds0,p0,q0,hargs,rfl,rfl,h0,r0⟩ := trodAll_cons hA
  obtain ⟨rfl,rfl,rfl⟩ := trodAll_nil r0
  obtain rfl : args = #[v0] := by cases args; simp_all
  obtain ⟨rfl,rfl⟩ := trodVars_none hV
  have hk2 : dbulkAll ([d0] ++ []) ≤ 1048576 := by rw [← bulk_eq]; simpa [Rows.uptoSmall] using hk
  simp only [List.append_nil,dbulkAll] at hk2
  obtain ⟨x0,t0,a0,i0,b0⟩ := arg_irel laidO mapsR fullS (of_decide_eq_true (by kernel_rfl)) h0 (.inr ⟨_,hval 0 28 v0 rfl rfl⟩)
  obtain ⟨f0,l0,rfl,_,y0,z0⟩ := slice_arg Try.underlying28 t0 a0
  obtain ⟨ts0,rfl⟩ := tris_of Try.underlying24 y0 z0
  have hb0 : ts0.length ≤ 1048576 := by
    have := tris_bulk ts0
    simp only [pbulk] at b0
    omega
  have hc := law_calls g_ok (law8 f0 ts0 hb0 []) (fun _ => rfl) (vs := #[v0]) (W := W) rfl (fun i v u hv hu => by
    match i with
    | 0 => simp at hv hu; subst hv hu; exact i0
    | i + 1 => simp at hv)
  refine callsMono hc fun e W' ⟨he,hk⟩ => ⟨.bool true,he, ?_⟩
  exact (post_true laidO mapsR fullS (fun t ht => by rw [Try.params8] at ht; exact of_decide_eq_true (List.all_eq_true.1 (show ([28].all fun t => decide (t < Try.prog.types.size)) = true by kernel_rfl) t ht)) rfl hW' hk rfl rfl rfl (tb := 4) (by kernel_rfl) Try.underlying4).1
set_option maxRecDepth 100000 in
theorem lifted (os : Os) (started : os.Started) (H : Type) (enc : TypeId × Value → H) (F : Stop.Interp) :
    ReturnsInHanded {} Try.checked os 8 .any ((Rows.OpenSpec.upto Rows.assembleEdgesSpec).pre6 enc Try.prog Try.f8 Rows.assembleEdgesUptoRow.domain false) (((Rows.OpenSpec.upto Rows.assembleEdgesSpec).at F).post enc Try.prog Try.f8 false true false false) := by
  refine returnsInHanded_of_cond (C := Try.checked) (s := Rows.OpenSpec.upto Rows.assembleEdgesSpec) (k := Rows.uptoSmall) rfl own started (by kernel_rfl) Try.func8
    (OpenSpec.witness (enc := enc) (C := Try.checked) (s := Rows.OpenSpec.upto Rows.assembleEdgesSpec) (k := Rows.uptoSmall) rfl false ⟨#[], #[.slice none 0 0],[]⟩ 8 (by kernel_rfl) (by kernel_rfl) (by kernel_rfl)
      (x := ([.nil],[],[])) (by kernel_rfl) rfl (by kernel_rfl)) ?_
  intro W base args ds gs before hval hW _ hk _
  exact contract H enc W base args ds gs before hval hW hk
theorem holds : Rows.AssembleEdgesUptoSaid :=
  OpenClaim.holds_of_cond 8 Try.f8 rfl rfl rfl rfl rfl rfl rfl ⟨rfl,rfl,rfl,rfl,rfl⟩ rfl rfl rfl rfl rfl (by kernel_rfl) Try.func8 (by kernel_rfl)
    (of_decide_eq_true (by kernel_rfl)) (by unfold Func.isWrapper; first | (rw [if_pos (by decide +kernel)]; kernel_rfl) | (rw [if_neg (by decide +kernel)]; exact ⟨rfl,rfl⟩))
    (fun os started H enc _ F => lifted os started H enc F)
end Go.Proofs.Yteodaifeknghaaa.AssembleEdges
