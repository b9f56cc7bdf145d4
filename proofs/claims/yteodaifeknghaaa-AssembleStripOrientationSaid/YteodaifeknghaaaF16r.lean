/- Chapter 16: the reference's edges; the law AssembleEdges, evaluated. -/
import Derived.Test.YteodaifeknghaaaF16q
set_option maxRecDepth 100000
set_option linter.unusedSimpArgs false
set_option linter.unusedVariables false
namespace Go.VI.S
open Go.VI
open Go.VI.S0 (T2 ed lessF encE encE_len encE_take encE_hsz encE_apps encE_cons' encE_app' encE_nil encE_takeN encE_dropN encE_low eOf sel Srt less_iff hasE usesF edgesF)
theorem insF_mem {e e' : T2} : ∀ {l : List T2},e' ∈ insF l e ↔ e' ∈ l ∨ e' = e
  | [] => by simp [insF]
  | x :: r => by
    unfold insF
    split
    · simp only [List.mem_cons,insF_mem (l := r),or_assoc]
    · split
      · rename_i h
        subst h
        simp only [List.mem_cons]
        exact ⟨.inl,fun h => h.elim id .inl⟩
      · simp only [List.mem_cons]
        exact ⟨fun h => h.elim .inr .inl,fun h => h.elim .inr .inl⟩
theorem insF_srt {e : T2} : ∀ {l : List T2},Srt l → Srt (insF l e)
  | [],_ => by simp [insF,Srt]
  | x :: r,h => by
    have h' := List.pairwise_cons.1 h
    unfold insF
    split
    · rename_i hl
      refine List.pairwise_cons.2 ⟨fun y hy => ?_,insF_srt h'.2⟩
      rcases insF_mem.1 hy with hy | rfl
      · exact h'.1 y hy
      · exact hl
    · rename_i hl
      split
      · exact h
      · rename_i hne
        have hex := S0.less_or hne (by simpa using hl)
        refine List.pairwise_cons.2 ⟨fun y hy => ?_,h⟩
        rcases List.mem_cons.1 hy with rfl | hy
        · exact hex
        · exact S0.less_trans hex (h'.1 y hy)
theorem insF_ne {l : List T2} {e : T2} : insF l e ≠ [] := by
  cases l with
  | nil => simp [insF]
  | cons x r => unfold insF; split; simp; split <;> simp
theorem insF_len {e : T2} : ∀ {l : List T2},(insF l e).length ≤ l.length + 1
  | [] => by simp [insF]
  | x :: r => by
    have := insF_len (e := e) (l := r)
    unfold insF
    split
    · simp; omega
    · split <;> simp
theorem flE_ins {l : List T2} {e : T2} : flE (insF l e) = .any := if_neg insF_ne
def refS (ts : List T3) (x y : Int) (o : List T2) : List T2 := if x ≠ y ∧ usesR ts (eOf x y).1 (eOf x y).2 = 2 then insF o (eOf x y) else o
def refK (ts : List T3) (t : T3) : Nat → Nat → List T2 → List T2
  | 0,_,o => o
  | m + 1,k,o => refK ts t m (k + 1) (refS ts (sel t.1 t.2.1 t.2.2 k) (sel t.1 t.2.1 t.2.2 ((k + 1) % 3)) o)
def refA (ts : List T3) : List T3 → List T2 → List T2
  | [],o => o
  | t :: r,o => refA ts r (refK ts t 3 0 o)
theorem refS_len {ts : List T3} {x y : Int} {o : List T2} : (refS ts x y o).length ≤ o.length + 1 := by
  unfold refS
  split
  · exact insF_len
  · omega
theorem refK_len {ts : List T3} {t : T3} : ∀ (m k : Nat) (o : List T2),(refK ts t m k o).length ≤ o.length + m
  | 0,k,o => by simp [refK]
  | m + 1,k,o => by
    have := refK_len (ts := ts) (t := t) m (k + 1) (refS ts (sel t.1 t.2.1 t.2.2 k) (sel t.1 t.2.1 t.2.2 ((k + 1) % 3)) o)
    have h2 := refS_len (ts := ts) (x := sel t.1 t.2.1 t.2.2 k) (y := sel t.1 t.2.1 t.2.2 ((k + 1) % 3)) (o := o)
    show (refK ts t m (k + 1) _).length ≤ _
    omega
theorem hasR_E {t : T3} {p q : Int} (h : p < q) : hasR t.1 t.2.1 t.2.2 p q = hasE t (p,q) := by
  obtain ⟨a,b,c⟩ := t
  unfold hasR hasE eOf
  rw [decide_eq_decide]
  simp only [Prod.mk.injEq]
  (repeat' split) <;> omega
theorem hasE_lt {t : T3} {e : T2} (h : hasE t e = true) : e.1 < e.2 := by
  obtain ⟨a,b,c⟩ := t
  unfold hasE eOf at h
  rw [decide_eq_true_eq] at h
  simp only at h
  rcases h with ⟨h,rfl⟩ | ⟨h,rfl⟩ | ⟨h,rfl⟩ <;> simp only <;> (repeat' split) <;> omega
theorem usesR_E {ts : List T3} {e : T2} (h : e.1 < e.2) : usesR ts e.1 e.2 = usesF ts e := by
  unfold usesR usesF
  congr 1
  funext t
  exact hasR_E h
theorem eOf_lt {x y : Int} (h : x ≠ y) : (eOf x y).1 < (eOf x y).2 := by
  unfold eOf
  simp only
  (repeat' split) <;> omega
theorem refS_mem {ts : List T3} {x y : Int} {o : List T2} {e : T2} : e ∈ refS ts x y o ↔ e ∈ o ∨ ((x ≠ y ∧ eOf x y = e) ∧ usesF ts e = 2) := by
  unfold refS
  by_cases hxy : x = y
  · simp [hxy]
  · have hlt := eOf_lt hxy
    rw [usesR_E hlt]
    by_cases hu : usesF ts (eOf x y) = 2
    · rw [if_pos ⟨hxy,hu⟩,insF_mem]
      refine or_congr Iff.rfl ⟨fun h => ⟨⟨hxy,h.symm⟩,h ▸ hu⟩,fun h => h.1.2.symm⟩
    · rw [if_neg fun h => hu h.2]
      exact ⟨.inl,fun h => h.elim id fun h => absurd (h.1.2 ▸ h.2) hu⟩
theorem refK_mem {ts : List T3} {t : T3} {o : List T2} {e : T2} : e ∈ refK ts t 3 0 o ↔ e ∈ o ∨ (hasE t e = true ∧ usesF ts e = 2) := by
  obtain ⟨a,b,c⟩ := t
  show e ∈ refS ts c a (refS ts b c (refS ts a b o)) ↔ _
  rw [refS_mem,refS_mem,refS_mem]
  unfold hasE
  rw [decide_eq_true_eq]
  simp only
  constructor
  · rintro (((h | h) | h) | h)
    · exact .inl h
    · exact .inr ⟨.inl h.1,h.2⟩
    · exact .inr ⟨.inr (.inl h.1),h.2⟩
    · exact .inr ⟨.inr (.inr h.1),h.2⟩
  · rintro (h | ⟨h | h | h,h2⟩)
    · exact .inl (.inl (.inl h))
    · exact .inl (.inl (.inr ⟨h,h2⟩))
    · exact .inl (.inr ⟨h,h2⟩)
    · exact .inr ⟨h,h2⟩
theorem refA_mem {ts : List T3} {e : T2} : ∀ {r : List T3} {o : List T2},e ∈ refA ts r o ↔ e ∈ o ∨ ((∃ t ∈ r,hasE t e = true) ∧ usesF ts e = 2)
  | [],o => by simp [refA]
  | t :: r,o => by
    show e ∈ refA ts r (refK ts t 3 0 o) ↔ _
    rw [refA_mem,refK_mem]
    simp only [List.mem_cons,exists_eq_or_imp]
    constructor
    · rintro ((h | h) | h)
      · exact .inl h
      · exact .inr ⟨.inl h.1,h.2⟩
      · exact .inr ⟨.inr h.1,h.2⟩
    · rintro (h | ⟨h | h,h2⟩)
      · exact .inl (.inl h)
      · exact .inl (.inr ⟨h,h2⟩)
      · exact .inr ⟨h,h2⟩
theorem refS_srt {ts : List T3} {x y : Int} {o : List T2} (h : Srt o) : Srt (refS ts x y o) := by
  unfold refS
  split
  · exact insF_srt h
  · exact h
theorem refA_srt {ts : List T3} : ∀ {r : List T3} {o : List T2},Srt o → Srt (refA ts r o)
  | [],o,h => h
  | t :: r,o,h => refA_srt (r := r) (refS_srt (refS_srt (refS_srt h)))
theorem ref_eq (ts : List T3) : refA ts ts [] = edgesF ts := by
  refine S0.srt_eq (refA_srt .nil) (S0.edges_srt ts) fun e => ?_
  rw [refA_mem,S0.edges_mem]
  constructor
  · rintro (h | h)
    · simp at h
    · exact h.2
  · intro h
    refine .inr ⟨?_,h⟩
    have : 0 < usesF ts e := by omega
    unfold usesF at this
    rw [List.countP_pos_iff] at this
    exact this
end Go.VI.S
