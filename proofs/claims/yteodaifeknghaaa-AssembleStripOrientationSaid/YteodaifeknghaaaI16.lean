/- Chapter 16: the seat's program is what VI evaluates. -/
import Derived.Test.YteodaifeknghaaaF16a
import Derived.Test.YteodaifeknghaaaVC
import Derived.Test.YteodaifeknghaaaChecked
import Derived.KernelRfl
set_option maxRecDepth 100000
namespace Go.VI.S
open Go.VI Go.Proofs
noncomputable def g0 (MC : PC → Code → Prop) (lo : Nat) : PG := { P := Try.prog,E := E,GL := fun _ => false,MC := MC,lo := lo }
theorem checkL (M : PC → Code → Prop) (lo : Nat) : (table.all fun x => (g0 M lo).fnOK x.1 x.2) = true := by kernel_rfl
theorem fns (M : PC → Code → Prop) (lo : Nat) : FnsM (g0 M lo) := by
  intro f p h
  have h : pf1 f = some p := h
  unfold pf1 at h
  rw [cond_eq_ite] at h
  split at h
  · rename_i e
    have e := Nat.eq_of_beq_eq_true e
    subst e
    have h := Option.some.inj h
    subst h
    exact List.all_eq_true.1 (checkL M lo) (26,p26) (S0.tree_mem (t := tree) rfl)
  · exact List.all_eq_true.1 (checkL M lo) (f,p) (S0.tree_mem h)
theorem indep (M M' : PC → Code → Prop) (lo lo' : Nat) : (g0 M lo).matchC = (g0 M' lo').matchC := by kernel_rfl
theorem indepS (M M' : PC → Code → Prop) (lo lo' : Nat) : (g0 M lo).matchC = (S0.g0 M' lo').matchC := by kernel_rfl
noncomputable def g : PG := g0 S0.mc 0
theorem ext : ExtSound g := by
  intro f p val hp hx args v hv h c w vs hs hl
  have hp : pf1 f = some p := hp
  unfold pf1 at hp
  rw [cond_eq_ite] at hp
  split at hp
  · rename_i e
    have e := Nat.eq_of_beq_eq_true e
    subst e
    have hp := Option.some.inj hp
    subst hp
    have hval : some S0.edgesV = some val := hx
    simp only [Option.some.injEq] at hval
    subst hval
    refine callsMono (S0.edges_ext hv (c := c) ⟨hs.heap,hs.wf,hs.hn⟩ hl) fun e w' ⟨u,c',h1,h2,h3,h4⟩ => ⟨u,c',h1,h2,⟨h3.heap,h3.wf,h3.hn⟩,h4⟩
  · have := List.all_eq_true.1 S0.noext (f,p) (S0.tree_mem hp)
    simp only [hx] at this
    cases this
theorem g_ok : g.OK where
  fns lo := fns S0.mc lo
  ext := ext
  mc p x := ⟨fun h lo => by rw [show (g.at lo).matchC = (S0.g0 (fun _ _ => False) 0).matchC from indepS _ _ _ _]; exact h,fun h => by have := h 0; rw [show (g.at 0).matchC = (S0.g0 (fun _ _ => False) 0).matchC from indepS _ _ _ _] at this; exact this⟩
  indep p x lo lo' h := by rw [show (g.at lo').matchC = (g.at lo).matchC from indep _ _ _ _]; exact h
end Go.VI.S
namespace Go.VI.S
open Go.VI Go.Proofs
theorem own : ownKnob Try.prog.godebug = none := by kernel_rfl
theorem laidO : laidOutB Try.prog = true := by kernel_rfl
theorem mapsR : mapsRowed Try.prog = true := by kernel_rfl
theorem fullS : ∀ t e,t < Try.prog.types.size → Try.prog.underlying t = some (.slice e) → 0 < Try.prog.cellsOf e := slices_full_of Try.prog (by kernel_rfl)
theorem tri_arg {t : TypeId} {pv : PV} (hu : Try.prog.underlying t = some (.array 3 3)) (h : HasTy Try.prog t pv.cells) (hA : ∃ dd,Try.prog.underlying t = some dd ∧ pv.isAgg = isA dd) : ∃ a b c,pv = tri a b c := by
  obtain ⟨d,hd,hA⟩ := hA
  rw [hu] at hd
  simp only [Option.some.injEq] at hd
  subst hd
  obtain ⟨Ls,hLs,hl,hM⟩ := h.array_inv hu
  match Ls,hl with
  | [x,y,z],_ =>
    obtain ⟨a,ha,_⟩ := (hM x (by simp)).int_inv Try.underlying3
    obtain ⟨b,hb,_⟩ := (hM y (by simp)).int_inv Try.underlying3
    obtain ⟨c,hc,_⟩ := (hM z (by simp)).int_inv Try.underlying3
    refine ⟨a,b,c, ?_⟩
    rw [agg_of hA,hLs,ha,hb,hc]
    rfl
theorem tris_of {e : TypeId} (hu : Try.prog.underlying e = some (.array 3 3)) : ∀ {l : List PV},(∀ v ∈ l,HasTy Try.prog e v.cells) → (∀ v ∈ l, ∃ dd,Try.prog.underlying e = some dd ∧ v.isAgg = isA dd) → ∃ ts : List (Int × Int × Int),l = ts.map fun p => tri p.1 p.2.1 p.2.2
  | [],_,_ => ⟨[],rfl⟩
  | v :: r,h1,h2 => by
    obtain ⟨a,b,c,rfl⟩ := tri_arg hu (h1 v (by simp)) (h2 v (by simp))
    obtain ⟨ts,rfl⟩ := tris_of hu (l := r) (fun v hv => h1 v (List.mem_cons_of_mem _ hv)) fun v hv => h2 v (List.mem_cons_of_mem _ hv)
    exact ⟨(a,b,c) :: ts,rfl⟩
theorem tris_bulk : ∀ (ts : List (Int × Int × Int)),ts.length ≤ pbulkL (ts.map fun p => tri p.1 p.2.1 p.2.2)
  | [] => by simp
  | t :: r => by
    have := tris_bulk r
    simp only [List.map_cons,pbulkL,List.length_cons,tri,pbulk]
    simp only [tri] at this
    omega
end Go.VI.S
