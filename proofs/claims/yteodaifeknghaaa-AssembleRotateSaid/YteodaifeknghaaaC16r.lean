/- The law AssembleRotate of chapter 16 returns true for every input and leaves its arguments as they were. No condition is asked. -/
import Derived.Test.YteodaifeknghaaaF16b
import Derived.Test.YteodaifeknghaaaI16
import Derived.Test.YteodaifeknghaaaRows
import Derived.JoinedOf
import Derived.JoinedCond
import Derived.JoinedAt
import Derived.OpenShut
import Derived.ProofKit
import Derived.WalkKit
set_option maxRecDepth 100000
namespace Go.Proofs.Yteodaifeknghaaa.AssembleRotate
open Go.ChangeShapes Go.WideShapes Go.ChangeAt Go.RowKit Go.VI Go.VI.S
set_option linter.unusedVariables false

theorem contract (H : Type) (enc : TypeId × Value → H) (W : World) (base : Nat) (args : Array Value) (ds gs : List (DataW H)) (before : List MemPlace)
    (hval : ∀ (j : Nat) t v, Try.f7.params[j]? = some t → args[j]? = some v → Value.okWide Try.prog W .any base t v)
    (hW : DataW.Whole enc Try.prog Try.f7.params.toList Rows.assembleRotateSpec.vars false W args.toList ds gs before) :
    Calls Try.prog 7 args W fun e W' => ∃ v, e = .returned v ∧ Rows.assembleRotateSpec.post enc Try.prog Try.f7 false true false false W args v W' := by
  have hW' := hW
  obtain ⟨p, q, hA0, hV, rfl, hfz, hnd⟩ := hW
  have hA : DataW.TrodAll enc Try.prog W 0 (fun _ => true) true Try.f7.params.toList args.toList ds p := hA0
  rw [Try.params7] at hA hval
  obtain ⟨v0, vs0, d0, ds0, p0, q0, hargs, rfl, rfl, h0, r0⟩ := trodAll_cons hA
  obtain ⟨v1, vs1, d1, ds1, p1, q1, rfl, rfl, rfl, h1, r1⟩ := trodAll_cons r0
  obtain ⟨v2, vs2, d2, ds2, p2, q2, rfl, rfl, rfl, h2, r2⟩ := trodAll_cons r1
  obtain ⟨rfl, rfl, rfl⟩ := trodAll_nil r2
  obtain rfl : args = #[v0, v1, v2] := by cases args; simp_all
  obtain ⟨rfl, rfl⟩ := trodVars_none hV
  obtain ⟨x0, t0, a0, i0⟩ := arg_irel laidO mapsR fullS (of_decide_eq_true (by kernel_rfl)) h0 (.inr ⟨_, hval 0 24 v0 rfl rfl⟩)
  obtain ⟨x1, t1, a1, i1⟩ := arg_irel laidO mapsR fullS (of_decide_eq_true (by kernel_rfl)) h1 (.inr ⟨_, hval 1 3 v1 rfl rfl⟩)
  obtain ⟨x2, t2, a2, i2⟩ := arg_irel laidO mapsR fullS (of_decide_eq_true (by kernel_rfl)) h2 (.inr ⟨_, hval 2 3 v2 rfl rfl⟩)
  obtain ⟨a, b, c, rfl⟩ := tri_arg Try.underlying24 t0 a0
  obtain ⟨n, rfl, _⟩ := int_arg Try.underlying3 t1 a1
  obtain ⟨m, rfl, _⟩ := int_arg Try.underlying3 t2 a2
  have hc := law_calls g_ok (law7 a b c n m []) (fun _ => rfl) (vs := #[v0, v1, v2]) (W := W) rfl (fun i v u hv hu => by
    match i with
    | 0 => simp at hv hu; subst hv hu; exact i0
    | 1 => simp at hv hu; subst hv hu; exact i1
    | 2 => simp at hv hu; subst hv hu; exact i2
    | i + 3 => simp at hv)
  refine callsMono hc fun e W' ⟨he, hk⟩ => ⟨.bool true, he, ?_⟩
  exact (post_true laidO mapsR fullS (fun t ht => by rw [Try.params7] at ht; simp at ht; rcases ht with rfl | rfl <;> exact of_decide_eq_true (by kernel_rfl)) rfl hW' hk rfl rfl rfl (tb := 4) (by kernel_rfl) Try.underlying4).1

set_option maxRecDepth 100000 in
theorem lifted (os : Os) (started : os.Started) (H : Type) (enc : TypeId × Value → H) :
    ReturnsInHanded {} Try.checked os 7 .any (Rows.assembleRotateSpec.pre6 enc Try.prog Try.f7 Rows.assembleRotateRow.domain false) (Rows.assembleRotateSpec.post enc Try.prog Try.f7 false true false false) := by
  refine returnsInHanded_of_change (C := Try.checked) own started (by kernel_rfl) Try.func7
    (ChangeSpec.witness6 (enc := enc) (C := Try.checked) false ⟨#[], #[.agg #[.int .i64 0, .int .i64 0, .int .i64 0], .int .i64 0, .int .i64 0], []⟩ 8 (by kernel_rfl) (by kernel_rfl) (by kernel_rfl) (by kernel_rfl)) ?_
  intro W base args ds gs before hval hW _ _
  exact contract H enc W base args ds gs before hval hW

theorem holds : Rows.AssembleRotateSaid :=
  OpenClaim.holds_of_wide 7 Try.f7 rfl rfl rfl rfl rfl rfl rfl ⟨rfl, rfl, rfl, rfl, rfl⟩ rfl rfl rfl rfl rfl (by kernel_rfl) Try.func7 (by kernel_rfl)
    (of_decide_eq_true (by kernel_rfl)) (by unfold Func.isWrapper; first | (rw [if_pos (by decide +kernel)]; kernel_rfl) | (rw [if_neg (by decide +kernel)]; exact ⟨rfl, rfl⟩))
    (fun os started H enc _ => lifted os started H enc)
#print axioms holds
end Go.Proofs.Yteodaifeknghaaa.AssembleRotate
