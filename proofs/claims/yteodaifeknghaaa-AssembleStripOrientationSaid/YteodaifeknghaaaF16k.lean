/- Chapter 16: what Edges computes, walked: the loop over the map; sorted edges. -/
import Derived.Test.YteodaifeknghaaaF16j
import Derived.Test.YteodaifeknghaaaI16a
set_option maxRecDepth 100000
set_option linter.unusedSimpArgs false
set_option linter.unusedVariables false
namespace Go.VI.S0
open Go.VI Go.VI.S
theorem sel_len {e : T2} {A : As} {v : Int} : (setA A e v).length ≤ A.length + 1 := by
  rw [setA_len]; split <;> omega
theorem step_len {i a b : Int} {s : As × As} : (stepE i a b s).1.length ≤ s.1.length + 1 := by
  unfold stepE
  split
  · omega
  · exact sel_len
theorem round_len {i : Int} {t : T3} : ∀ (m k : Nat) (s : As × As),(roundE i t m k s).1.length ≤ s.1.length + m
  | 0,k,s => by simp [roundE]
  | m + 1,k,s => by
    have := round_len (i := i) (t := t) m (k + 1) (stepE i (sel t.1 t.2.1 t.2.2 k) (sel t.1 t.2.1 t.2.2 ((k + 1) % 3)) s)
    have h2 := step_len (i := i) (a := sel t.1 t.2.1 t.2.2 k) (b := sel t.1 t.2.1 t.2.2 ((k + 1) % 3)) (s := s)
    show (roundE i t m (k + 1) _).1.length ≤ _
    omega
theorem fold_len : ∀ (ts : List T3) (i : Nat) (s : As × As),(foldE ts i s).1.length ≤ s.1.length + 3 * ts.length
  | [],i,s => by simp [foldE]
  | t :: r,i,s => by
    have := fold_len r (i + 1) (roundE i t 3 0 s)
    have h2 := round_len (i := i) (t := t) 3 0 s
    show (foldE r (i + 1) _).1.length ≤ _
    simp only [List.length_cons]
    omega
def pick2 (A : As) (seen : List Nat) : List T2 := seen.filterMap fun i => match A[i]? with
  | some p => if p.2 = 2 then some p.1 else none
  | none => none
theorem pick2_len {A : As} {seen : List Nat} : (pick2 A seen).length ≤ seen.length := List.length_filterMap_le _ _
theorem pick2_app {A : As} {seen : List Nat} {i : Nat} {p : T2} {n : Int} (h : A[i]? = some (p,n)) : pick2 A (seen ++ [i]) = if n = 2 then pick2 A seen ++ [p] else pick2 A seen := by
  unfold pick2
  rw [List.filterMap_append]
  by_cases hn : n = 2
  · rw [if_pos hn,List.filterMap_cons,h]
    simp [hn]
  · rw [if_neg hn,List.filterMap_cons,h]
    simp [hn]
theorem encM_at {A : As} {i : Nat} {e : PV × PV} (h : (encM A)[i]? = some e) : ∃ p q n,A[i]? = some ((p,q),n) ∧ e = (.agg [.int .i64 p,.int .i64 q],.int .i64 n) := by
  simp only [encM,List.getElem?_map,Option.map_eq_some_iff] at h
  obtain ⟨⟨⟨p,q⟩,n⟩,h1,h2⟩ := h
  exact ⟨p,q,n,h1,h2.symm⟩
def InvE (A : As) (om ob3 ob4 : Option Ob) (seen : List Nat) (fr : Fr) : Prop :=
  ∃ g5 ob6 l,fr = { lvl := 0,tmps := mk 86 l,heap := [[some (.map (encM A) (encM A).length 1),om,some (.mem (encE (pick2 A seen)) g5 true 2),ob3,ob4,some (.iter (.map (0,0) 1) (encM A).length seen 1),ob6,none]],defers := [] } ∧
    look l 5 = .sl (0,2) g5 0 (pick2 A seen).length ∧ look l 72 = .ptr (0,5) 1 0 0 ∧ seen.Nodup ∧ (∀ i ∈ seen,i < A.length)
theorem keep_fr {L n : Nat} {l : List (Nat × PV)} {h : Heap} {d : List (Option (Nat × List PV))} {m : List Nat} (hm : asc m = true) : ({ ({ lvl := L,tmps := mk n l,heap := h,defers := d } : Fr) with tmps := keepE 0 m (mk n l) } : Fr) = { lvl := L,tmps := mk n (keepL m l),heap := h,defers := d } := by
  simp only [mk_keep hm]
theorem range_step (A : As) (hA : A.length ≤ 4194304) (om ob3 ob4 : Option Ob) (seen : List Nat) (fr : Fr) (i : Nat) (e : PV × PV) (hinv : InvE A om ob3 ob4 seen fr) (he : (encM A)[i]? = some e) (hns : i ∉ seen) :
    kQ E [.code (.cln [5,72] (.block 5 (.seq (.reg [⟨some 75,.entry (.t 72),none⟩,⟨some 76,.extract (.t 75) 0,none⟩,⟨some 77,.extract (.t 75) 1,none⟩,⟨some 14,.alloc 6 (.agg [.int .i64 0,.int .i64 0]),none⟩,⟨none,.store (some 2) (.t 14) (.t 76),none⟩,⟨some 15,.mov (.t 77),none⟩])
      (.seq (.reg [⟨some 78,.mov (.t 15),none⟩,⟨some 79,.bini .eql (.t 78) (.c (.int .i64 2)),none⟩])
      (.cond (.t 79) (.reg [⟨some 80,.mov (.t 5),none⟩,⟨some 81,.load (some 2) (.t 14),none⟩,⟨some 82,.bsl [.agg [.int .i64 0,.int .i64 0]] [(0,.t 81)],none⟩,⟨some 83,.append 7 true 2 16 (.t 80) (.t 82),none⟩,⟨some 5,.mov (.t 83),none⟩]) (.skip))))))]
      (fun ex fr' => ex = .norm ∧ InvE A om ob3 ob4 (seen ++ [i]) fr') .norm (nextFr { fr with tmps := keepE 0 [5,72] fr.tmps } (0,5) 1 (.map (0,0) 1) (encM A).length seen 73 74 i e) := by
  obtain ⟨g5,ob6,l,rfl,h5,h72,hnd,hlt⟩ := hinv
  obtain ⟨p,q,n,hA1,rfl⟩ := encM_at he
  have hl := nodup_le A.length seen hnd hlt
  have hi : i < A.length := getElem?_some_lt hA1
  have hO := pick2_len (A := A) (seen := seen)
  have hnd' : (seen ++ [i]).Nodup := by
    rw [List.nodup_append]
    refine ⟨hnd,by simp,fun x hx y hy e => ?_⟩
    simp at hy
    subst hy e
    exact hns hx
  have hlt' : ∀ j ∈ seen ++ [i],j < A.length := by
    intro j hj
    rw [List.mem_append] at hj
    rcases hj with hj | hj
    · exact hlt j hj
    · simp at hj; omega
  rw [keep_fr (by rfl)]
  unfold nextFr
  by_cases hn : n = 2
  · subst hn
    have hp := pick2_app (seen := seen) hA1
    rw [if_pos rfl] at hp
    have hea : encE (pick2 A seen) ++ [.agg [.int .i64 p,.int .i64 q]] = encE (pick2 A (seen ++ [i])) := by rw [hp]; exact encE_app' (p := (p,q))
    repeat' first | ((with_reducible first | refine cS ?_ ?_ | refine oS ?_ ?_ | refine dS ?_ ?_) <;> intro _) | ((with_reducible refine kk ?_ ?_); · rfl) | (simp -implicitDefEqProofs (disch := first | omega | assumption) only [push_cast,simprocAttr,eqTop,eqShL,eqSh,K_seq,h5,h72,List.getLast?_concat,he,encE_len,encE_take]) | ((with_reducible first | refine cB ?_ ?_ | refine oB ?_ ?_ | refine dB ?_ ?_) <;> intro _)
    rw [hea]
    exact ⟨_,_,_,rfl,by simp [look,hp],by simp [look,look_keepL,h72],hnd',hlt'⟩
  · have hp := pick2_app (seen := seen) hA1
    rw [if_neg hn] at hp
    repeat' first | ((with_reducible first | refine cS ?_ ?_ | refine oS ?_ ?_ | refine dS ?_ ?_) <;> intro _) | ((with_reducible refine kk ?_ ?_); · rfl) | (simp -implicitDefEqProofs (disch := first | omega | assumption) only [push_cast,simprocAttr,eqTop,eqShL,eqSh,K_seq,h5,h72,List.getLast?_concat,he,hn]) | ((with_reducible first | refine cB ?_ ?_ | refine oB ?_ ?_ | refine dB ?_ ?_) <;> intro _)
    rw [← hp]
    exact ⟨_,_,_,rfl,by simp [look,look_keepL,h5,hp],by simp [look,look_keepL,h72],hnd',hlt'⟩
end Go.VI.S0
