/- Chapter 16: the seat's program is what VI evaluates. -/
import Derived.Test.YteodaifeknghaaaF16a
import Derived.Test.YteodaifeknghaaaVi38
import Derived.Test.YteodaifeknghaaaChecked
import Derived.KernelRfl
set_option maxRecDepth 100000
namespace Go.VI.S
open Go.VI Go.Proofs
noncomputable def g0 (MC : PC → Code → Prop) (lo : Nat) : PG := { P := Try.prog, E := E, GL := fun _ => false, MC := MC, lo := lo }

theorem checkL (M : PC → Code → Prop) (lo : Nat) : (table.all fun x => (g0 M lo).fnOK x.1 x.2) = true := by kernel_rfl

theorem lookup_mem {α : Type} {n : Nat} {a : α} : ∀ {l : List (Nat × α)}, l.lookup n = some a → (n, a) ∈ l
  | [], h => by simp at h
  | (m, b) :: r, h => by
    simp only [List.lookup] at h
    split at h
    · rename_i e
      simp only [Option.some.injEq] at h
      have : n = m := by simpa using e
      subst this h
      exact List.mem_cons_self ..
    · exact List.mem_cons_of_mem _ (lookup_mem h)

theorem fns (M : PC → Code → Prop) (lo : Nat) : FnsM (g0 M lo) := fun f p h => List.all_eq_true.1 (checkL M lo) (f, p) (lookup_mem h)

theorem indep (M M' : PC → Code → Prop) (lo lo' : Nat) : (g0 M lo).matchC = (g0 M' lo').matchC := by kernel_rfl

def mc : PC → Code → Prop := fun p x => (g0 (fun _ _ => False) 0).matchC true p x = true

noncomputable def g : PG := g0 mc 0

theorem g_ok : g.OK where
  fns lo := fns mc lo
  mc p x := ⟨fun h lo => by rw [show (g.at lo).matchC = (g0 (fun _ _ => False) 0).matchC from indep _ _ _ _]; exact h, fun h => by have := h 0; rw [show (g.at 0).matchC = (g0 (fun _ _ => False) 0).matchC from indep _ _ _ _] at this; exact this⟩
  indep p x lo lo' h := by rw [show (g.at lo').matchC = (g.at lo).matchC from indep _ _ _ _]; exact h
end Go.VI.S
namespace Go.VI.S
open Go.VI Go.Proofs
theorem own : ownKnob Try.prog.godebug = none := by kernel_rfl
theorem laidO : laidOutB Try.prog = true := by kernel_rfl
theorem mapsR : mapsRowed Try.prog = true := by kernel_rfl
theorem fullS : ∀ t e, t < Try.prog.types.size → Try.prog.underlying t = some (.slice e) → 0 < Try.prog.cellsOf e := slices_full_of Try.prog (by kernel_rfl)

/-- An argument of type [3]int. -/
theorem tri_arg {t : TypeId} {pv : PV} (hu : Try.prog.underlying t = some (.array 3 3)) (h : HasTy Try.prog t pv.cells) (hA : ∃ dd, Try.prog.underlying t = some dd ∧ pv.isAgg = isA dd) : ∃ a b c, pv = tri a b c := by
  obtain ⟨d, hd, hA⟩ := hA
  rw [hu] at hd
  simp only [Option.some.injEq] at hd
  subst hd
  obtain ⟨Ls, hLs, hl, hM⟩ := h.array_inv hu
  match Ls, hl with
  | [x, y, z], _ =>
    obtain ⟨a, ha, _⟩ := (hM x (by simp)).int_inv Try.underlying3
    obtain ⟨b, hb, _⟩ := (hM y (by simp)).int_inv Try.underlying3
    obtain ⟨c, hc, _⟩ := (hM z (by simp)).int_inv Try.underlying3
    refine ⟨a, b, c, ?_⟩
    rw [agg_of hA, hLs, ha, hb, hc]
    rfl
end Go.VI.S
