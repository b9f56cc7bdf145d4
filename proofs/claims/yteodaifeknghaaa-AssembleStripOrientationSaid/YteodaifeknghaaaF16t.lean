/- Chapter 16: the triangles of a strip of ascending indices and their edges, in plain terms. -/
import Derived.Test.YteodaifeknghaaaF16s
set_option maxRecDepth 100000
set_option linter.unusedSimpArgs false
set_option linter.unusedVariables false
namespace Go.VI.S
open Go.VI
open Go.VI.S0 (T2 ed lessF encE encE_len eOf sel Srt less_iff hasE usesF edgesF)
def asc2 (f : Int) (m : Nat) : List Int := (List.range m).map fun (j : Nat) => f + j
theorem asc_len {f : Int} {m : Nat} : (asc2 f m).length = m := by simp [asc2]
theorem asc_at {f : Int} {m : Nat} {j : Int} (h0 : 0 ≤ j) (h1 : j < m) : at' (asc2 f m) j = f + j := by
  have : j.toNat < m := by omega
  unfold at' asc2
  rw [List.getD_eq_getElem?_getD,List.getElem?_map,List.getElem?_range this]
  simp
  omega
theorem asc_app {f : Int} {m : Nat} : asc2 f m ++ [f + m] = asc2 f (m + 1) := by simp [asc2,List.range_succ]
def stT (f i : Int) : T3 := if i % 2 = 1 then (f + i,f + i + 2,f + i + 1) else (f + i,f + i + 1,f + i + 2)
def stL (f : Int) : Nat → Nat → List T3
  | _,0 => []
  | i,m + 1 => stT f i :: stL f (i + 1) m
theorem stL_len {f : Int} : ∀ {m i : Nat},(stL f i m).length = m
  | 0,_ => rfl
  | m + 1,i => by simp [stL,stL_len]
theorem stL_at {f : Int} : ∀ {m i j : Nat},j < m → (stL f i m)[j]? = some (stT f (i + j : Nat))
  | 0,i,j,h => by omega
  | m + 1,i,0,_ => rfl
  | m + 1,i,j + 1,h => by
    show (stL f (i + 1) m)[j]? = _
    rw [stL_at (by omega)]
    congr 2
    omega
theorem runs_pos : ∀ (zs run : List Int) (out : List (List Int)),(∀ z ∈ zs,0 ≤ z) → runsG zs run out = if run ++ zs = [] then out else out ++ [run ++ zs]
  | [],run,out,_ => by simp [runsG]
  | z :: r,run,out,h => by
    rw [runsG,if_pos (h z (by simp)),runs_pos r _ _ fun y hy => h y (List.mem_cons_of_mem _ hy)]
    simp
theorem tri_strip {f : Int} {m : Nat} {i : Nat} (h : i + 2 < m) : triT 2 (asc2 f m) i = stT f i := by
  unfold triT stT cornF
  rw [if_neg (by decide),if_neg (by decide)]
  split <;> simp only [Prod.mk.injEq] <;> (refine ⟨?_, ?_, ?_⟩ <;> (rw [asc_at (by omega) (by omega)]) <;> omega)
theorem trisR_strip {f : Int} {m : Nat} : ∀ (k i : Nat),i + k + 2 ≤ m → trisR 2 (asc2 f m) i k = stL f i k
  | 0,_,_ => rfl
  | k + 1,i,h => by
    rw [trisR,stL,trisR_strip k (i + 1) (by omega),tri_strip (by omega)]
theorem tris_strip {f : Int} (hf : 0 ≤ f) (m : Nat) : trisF 2 (asc2 f m) = stL f 0 (m - 2) := by
  have hpos : ∀ z ∈ asc2 f m,0 ≤ z := by
    intro z hz
    simp only [asc2,List.mem_map] at hz
    obtain ⟨j,_,rfl⟩ := hz
    omega
  unfold trisF runsF
  rw [runs_pos _ _ _ hpos]
  cases m with
  | zero => rfl
  | succ m =>
    have hne : ¬ ([] ++ asc2 f (m + 1) = []) := by
      intro e
      have := congrArg List.length e
      simp [asc_len] at this
    rw [if_neg hne]
    simp only [List.nil_append,trisL,List.append_nil,asc_len]
    have hc : (countF 2 ((m + 1 : Nat) : Int)).toNat = m + 1 - 2 := by
      unfold countF
      rw [if_neg (by omega),if_neg (by omega)]
      split <;> omega
    rw [hc]
    by_cases hm : m + 1 < 2
    · have : m + 1 - 2 = 0 := by omega
      rw [this]
      rfl
    · exact trisR_strip _ _ (by omega)
theorem uses_strip {f p q : Int} : ∀ (m i : Nat),usesF (stL f i m) (p,q) = (if q = p + 1 ∧ f + i ≤ p ∧ p < f + i + m then 1 else 0) + (if q = p + 1 ∧ f + i + 1 ≤ p ∧ p < f + i + m + 1 then 1 else 0) + (if q = p + 2 ∧ f + i ≤ p ∧ p < f + i + m then 1 else 0)
  | 0,i => by
    simp only [stL,usesF,List.countP_nil]
    (repeat' split) <;> omega
  | m + 1,i => by
    have ih := uses_strip (f := f) (p := p) (q := q) m (i + 1)
    have hh : hasE (stT f i) (p,q) = decide ((p = f + i ∧ q = p + 1) ∨ (p = f + i ∧ q = p + 2) ∨ (p = f + i + 1 ∧ q = p + 1)) := by
      unfold stT hasE eOf
      rw [decide_eq_decide]
      split <;> simp only [Prod.mk.injEq] <;> (repeat' split) <;> omega
    have : usesF (stL f i (m + 1)) (p,q) = usesF (stL f (i + 1) m) (p,q) + if hasE (stT f i) (p,q) = true then 1 else 0 := by
      simp only [stL,usesF,List.countP_cons]
    rw [this,ih,hh]
    simp only [decide_eq_true_eq]
    push_cast
    (repeat' split) <;> omega
theorem edges_strip {f : Int} (m : Nat) : (edgesF (stL f 0 m)).length = m - 1 := by
  have hp : (edgesF (stL f 0 m)).Perm ((List.range (m - 1)).map fun (j : Nat) => ((f + j + 1,f + j + 2) : T2)) := by
    have hnd : ((List.range (m - 1)).map fun (j : Nat) => ((f + j + 1,f + j + 2) : T2)).Nodup := by
      rw [List.Nodup,List.pairwise_map]
      refine List.Pairwise.imp ?_ (List.nodup_range (n := m - 1))
      intro a b hab e
      simp only [Prod.mk.injEq] at e
      omega
    rw [List.perm_ext_iff_of_nodup (S0.srt_nodup (S0.edges_srt _)) hnd]
    rintro ⟨p,q⟩
    rw [S0.edges_mem,uses_strip]
    simp only [List.mem_map,List.mem_range,Prod.mk.injEq]
    constructor
    · intro h
      have h2 : q = p + 1 ∧ f + 1 ≤ p ∧ p < f + m := by
        revert h
        (repeat' split) <;> intro h <;> omega
      exact ⟨(p - f - 1).toNat,by omega,by omega,by omega⟩
    · rintro ⟨j,hj,rfl,rfl⟩
      (repeat' split) <;> omega
  have := hp.length_eq
  simpa using this
theorem dir_strip {f : Int} {i : Nat} : (dirF (stT f i).1 (stT f i).2.1 (stT f i).2.2 (f + i + 1) (f + i + 2) = true ∧ dirF (stT f ((i : Int) + 1)).1 (stT f ((i : Int) + 1)).2.1 (stT f ((i : Int) + 1)).2.2 (f + i + 2) (f + i + 1) = true) ∨
    (dirF (stT f i).1 (stT f i).2.1 (stT f i).2.2 (f + i + 1) (f + i + 2) = false ∧ dirF (stT f i).1 (stT f i).2.1 (stT f i).2.2 (f + i + 2) (f + i + 1) = true ∧ dirF (stT f ((i : Int) + 1)).1 (stT f ((i : Int) + 1)).2.1 (stT f ((i : Int) + 1)).2.2 (f + i + 1) (f + i + 2) = true) := by
  have key : ∀ (i : Int),(i % 2 = 1 → stT f i = (f + i,f + i + 2,f + i + 1)) ∧ (¬ i % 2 = 1 → stT f i = (f + i,f + i + 1,f + i + 2)) := fun i => ⟨fun h => by unfold stT; rw [if_pos h],fun h => by unfold stT; rw [if_neg h]⟩
  by_cases h : (i : Int) % 2 = 1
  · rw [(key i).1 h,(key (i + 1)).2 (by omega)]
    right
    unfold dirF
    exact ⟨decide_eq_false (by simp only; omega),decide_eq_true (.inr (.inl ⟨rfl,rfl⟩)),decide_eq_true (.inl ⟨by simp only; omega,by simp only; omega⟩)⟩
  · rw [(key i).2 h,(key (i + 1)).1 (by omega)]
    left
    unfold dirF
    exact ⟨decide_eq_true (.inr (.inl ⟨rfl,rfl⟩)),decide_eq_true (.inr (.inr ⟨by simp only; omega,by simp only; omega⟩))⟩
end Go.VI.S
