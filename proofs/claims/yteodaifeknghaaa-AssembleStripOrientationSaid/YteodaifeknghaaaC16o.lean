/- The law AssembleStripOrientation of its chapter returns true for every input and leaves its arguments as they were. No condition is asked. -/
import Derived.Test.YteodaifeknghaaaF16v
import Derived.Test.YteodaifeknghaaaI16
import Derived.Test.YteodaifeknghaaaRows
import Derived.JoinedOf
import Derived.JoinedCond
import Derived.JoinedAt
import Derived.OpenShut
import Derived.ProofKit
import Derived.WalkKit
set_option maxRecDepth 100000
set_option linter.unusedVariables false
namespace Go.Proofs.Yteodaifeknghaaa.AssembleStripOrientation
open Go.ChangeShapes Go.WideShapes Go.ChangeAt Go.RowKit Go.VI Go.VI.S
theorem contract (H : Type) (enc : TypeId × Value → H) (W : World) (base : Nat) (args : Array Value) (ds gs : List (DataW H)) (before : List MemPlace)
    (hval : ∀ (j : Nat) t v,Try.f9.params[j]? = some t → args[j]? = some v → Value.okWide Try.prog W .any base t v)
    (hW : DataW.Whole enc Try.prog Try.f9.params.toList Rows.assembleStripOrientationSpec.vars false W args.toList ds gs before) :
    Calls Try.prog 9 args W fun e W' => ∃ v,e = .returned v ∧ Rows.assembleStripOrientationSpec.post enc Try.prog Try.f9 false true false false W args v W' := by
  have hW' := hW
  obtain ⟨p,q,hA0,hV,rfl,hfz,hnd⟩ := hW
  have hA : DataW.TrodAll enc Try.prog W 0 (fun _ => true) true Try.f9.params.toList args.toList ds p := hA0
  rw [Try.params9] at hA hval
  obtain ⟨v0,vs0,d0,ds0,p0,q0,hargs,rfl,rfl,h0,r0⟩ := trodAll_cons hA
  obtain ⟨v1,vs1,d1,ds1,p1,q1,rfl,rfl,rfl,h1,r1⟩ := trodAll_cons r0
  obtain ⟨rfl,rfl,rfl⟩ := trodAll_nil r1
  obtain rfl : args = #[v0,v1] := by cases args; simp_all
  obtain ⟨rfl,rfl⟩ := trodVars_none hV
  obtain ⟨x0,t0,a0,i0,b0⟩ := arg_irel laidO mapsR fullS (of_decide_eq_true (by kernel_rfl)) h0 (.inr ⟨_,hval 0 5 v0 rfl rfl⟩)
  obtain ⟨x1,t1,a1,i1,b1⟩ := arg_irel laidO mapsR fullS (of_decide_eq_true (by kernel_rfl)) h1 (.inr ⟨_,hval 1 45 v1 rfl rfl⟩)
  obtain ⟨n0,rfl,w0⟩ := int_arg Try.underlying5 t0 a0
  simp [Lit.wf,IntKind.min,IntKind.max,IntKind.signed,IntKind.bits] at w0
  obtain ⟨n1,rfl,w1⟩ := int_arg Try.underlying45 t1 a1
  simp [Lit.wf,IntKind.min,IntKind.max,IntKind.signed,IntKind.bits] at w1
  have hc := law_calls g_ok (law9i n0 n1 (by omega) (by omega) (by omega) (by omega) []) (fun _ => rfl) (vs := #[v0,v1]) (W := W) rfl (fun i v u hv hu => by
    match i with
    | 0 => simp at hv hu; subst hv hu; exact i0
    | 1 => simp at hv hu; subst hv hu; exact i1
    | i + 2 => simp at hv)
  refine callsMono hc fun e W' ⟨he,hk⟩ => ⟨.bool true,he, ?_⟩
  exact (post_true laidO mapsR fullS (fun t ht => by rw [Try.params9] at ht; exact of_decide_eq_true (List.all_eq_true.1 (show ([5,45].all fun t => decide (t < Try.prog.types.size)) = true by kernel_rfl) t ht)) rfl hW' hk rfl rfl rfl (tb := 4) (by kernel_rfl) Try.underlying4).1
set_option maxRecDepth 100000 in
theorem lifted (os : Os) (started : os.Started) (H : Type) (enc : TypeId × Value → H) :
    ReturnsInHanded {} Try.checked os 9 .any (Rows.assembleStripOrientationSpec.pre6 enc Try.prog Try.f9 Rows.assembleStripOrientationRow.domain false) (Rows.assembleStripOrientationSpec.post enc Try.prog Try.f9 false true false false) := by
  refine returnsInHanded_of_change (C := Try.checked) own started (by kernel_rfl) Try.func9
    (ChangeSpec.witness6 (enc := enc) (C := Try.checked) false ⟨#[], #[.int .u8 0,.int .u16 0],[]⟩ 8 (by kernel_rfl) (by kernel_rfl) (by kernel_rfl) (by kernel_rfl)) ?_
  intro W base args ds gs before hval hW _ _
  exact contract H enc W base args ds gs before hval hW
theorem holds : Rows.AssembleStripOrientationSaid :=
  OpenClaim.holds_of_wide 9 Try.f9 rfl rfl rfl rfl rfl rfl rfl ⟨rfl,rfl,rfl,rfl,rfl⟩ rfl rfl rfl rfl rfl (by kernel_rfl) Try.func9 (by kernel_rfl)
    (of_decide_eq_true (by kernel_rfl)) (by unfold Func.isWrapper; first | (rw [if_pos (by decide +kernel)]; kernel_rfl) | (rw [if_neg (by decide +kernel)]; exact ⟨rfl,rfl⟩))
    (fun os started H enc _ => lifted os started H enc)
end Go.Proofs.Yteodaifeknghaaa.AssembleStripOrientation
