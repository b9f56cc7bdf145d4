/- Chapter 16: the law of Edges in plain terms: both lists are in ascending order and have the same elements. -/
import Derived.Test.YteodaifeknghaaaF16k
set_option maxRecDepth 100000
set_option linter.unusedSimpArgs false
set_option linter.unusedVariables false
namespace Go.VI.S0
open Go.VI Go.VI.S
abbrev Srt (l : List T2) : Prop := l.Pairwise fun a b => lessF a b = true
theorem less_iff {a b : T2} : lessF a b = true ↔ a.1 < b.1 ∨ a.1 = b.1 ∧ a.2 < b.2 := by simp [lessF]
theorem less_trans {a b c : T2} (h1 : lessF a b = true) (h2 : lessF b c = true) : lessF a c = true := by
  rw [less_iff] at *
  omega
theorem less_ne {a b : T2} (h : lessF a b = true) : a ≠ b := by
  intro e
  subst e
  rw [less_iff] at h
  omega
theorem less_or {a b : T2} (h : a ≠ b) (h1 : lessF a b = false) : lessF b a = true := by
  rw [less_iff]
  have h2 : ¬ (a.1 < b.1 ∨ a.1 = b.1 ∧ a.2 < b.2) := by rw [← less_iff,h1]; simp
  have h3 : ¬ (a.1 = b.1 ∧ a.2 = b.2) := fun h3 => h (Prod.ext h3.1 h3.2)
  omega
theorem srt_mrg : ∀ (k : Nat) (a b : List T2),a.length + b.length = k → Srt a → Srt b → (∀ x ∈ a, ∀ y ∈ b,x ≠ y) → Srt (mrg a b) := by
  intro k
  induction k with
  | zero =>
    intro a b hk ha hb hn
    have : a = [] := List.eq_nil_of_length_eq_zero (by omega)
    subst this
    simpa [mrg] using hb
  | succ k ih =>
    intro a b hk ha hb hn
    cases a with
    | nil => simpa [mrg] using hb
    | cons x a =>
      cases b with
      | nil => simpa [mrg] using ha
      | cons y b =>
        simp only [List.length_cons] at hk
        have ha' := List.pairwise_cons.1 ha
        have hb' := List.pairwise_cons.1 hb
        unfold mrg
        rw [List.cons_merge_cons]
        cases hl : lessF x y with
        | true =>
          simp only [if_true]
          refine List.pairwise_cons.2 ⟨fun z hz => ?_,ih a (y :: b) (by simp; omega) ha'.2 hb fun u hu v hv => hn u (List.mem_cons_of_mem _ hu) v hv⟩
          rcases List.mem_merge.1 hz with h | h
          · exact ha'.1 z h
          · rcases List.mem_cons.1 h with rfl | h
            · exact hl
            · exact less_trans hl (hb'.1 z h)
        | false =>
          have hyx := less_or (hn x (by simp) y (by simp)) hl
          simp only [Bool.false_eq_true,if_false]
          refine List.pairwise_cons.2 ⟨fun z hz => ?_,ih (x :: a) b (by simp; omega) ha hb'.2 fun u hu v hv => hn u hu v (List.mem_cons_of_mem _ hv)⟩
          rcases List.mem_merge.1 hz with h | h
          · rcases List.mem_cons.1 h with rfl | h
            · exact hyx
            · exact less_trans hyx (ha'.1 z h)
          · exact hb'.1 z h
theorem sort_perm : ∀ (n : Nat) (l : List T2),(sortN n l).Perm l
  | 0,l => .refl _
  | n + 1,l => by
    unfold sortN
    split
    · exact .refl _
    · refine (List.merge_perm_append _).trans ?_
      refine ((sort_perm n _).append (sort_perm n _)).trans ?_
      rw [List.take_append_drop]
theorem sort_srt : ∀ (n : Nat) (l : List T2),l.length ≤ n → l.Nodup → Srt (sortN n l)
  | 0,l,h,_ => by
    have : l = [] := List.eq_nil_of_length_eq_zero (by omega)
    subst this
    exact .nil
  | n + 1,l,h,hn => by
    unfold sortN
    split
    · rename_i h2
      match l,h2 with
      | [],_ => exact .nil
      | [x],_ => simp [Srt]
    · rename_i h2
      have hs : (l.take (l.length / 2) ++ l.drop (l.length / 2)).Nodup := by rw [List.take_append_drop]; exact hn
      rw [List.nodup_append] at hs
      refine srt_mrg _ _ _ rfl (sort_srt n _ (by simp; omega) hs.1) (sort_srt n _ (by simp; omega) hs.2.1) fun x hx y hy e => ?_
      exact hs.2.2 x ((sort_perm n _).mem_iff.1 hx) y ((sort_perm n _).mem_iff.1 hy) e
theorem srt_nodup {l : List T2} (h : Srt l) : l.Nodup := h.imp fun h => less_ne h
theorem srt_eq {l m : List T2} (hl : Srt l) (hm : Srt m) (h : ∀ e,e ∈ l ↔ e ∈ m) : l = m :=
  List.Perm.eq_of_pairwise (fun a b _ _ h1 h2 => absurd rfl (less_ne (less_trans h1 h2))) hl hm ((List.perm_ext_iff_of_nodup (srt_nodup hl) (srt_nodup hm)).2 h)
def hasE (t : T3) (e : T2) : Bool := decide ((t.1 ≠ t.2.1 ∧ eOf t.1 t.2.1 = e) ∨ (t.2.1 ≠ t.2.2 ∧ eOf t.2.1 t.2.2 = e) ∨ (t.2.2 ≠ t.1 ∧ eOf t.2.2 t.1 = e))
def usesF (ts : List T3) (e : T2) : Nat := ts.countP fun t => hasE t e
def num (n : Nat) : Option Int := if n = 0 then none else some n
structure Wt (u : T2 → Nat) (i : Nat) (S : T2 → Prop) (s : As × As) : Prop where
  cnt : ∀ e,(S e → getA s.1 e = num (u e + 1)) ∧ (¬ S e → getA s.1 e = num (u e))
  lst : ∀ e,getA s.2 e = some (i : Int) ↔ S e
  le : ∀ e v,getA s.2 e = some v → v ≤ i
  nd : (s.1.map Prod.fst).Nodup
theorem getA_none {A : As} {e : T2} : getA A e = none ↔ e ∉ A.map Prod.fst := by
  induction A with
  | nil => simp [getA]
  | cons x r ih =>
    simp only [getA,List.map_cons,List.mem_cons,not_or]
    by_cases h : x.1 = e
    · simp [h]
    · rw [if_neg h,ih]
      exact ⟨fun h2 => ⟨fun h3 => h h3.symm,h2⟩,fun h2 => h2.2⟩
theorem setA_nd {A : As} {e : T2} {v : Int} (h : (A.map Prod.fst).Nodup) : ((setA A e v).map Prod.fst).Nodup := by
  have key : ∀ A : As,(setA A e v).map Prod.fst = if e ∈ A.map Prod.fst then A.map Prod.fst else A.map Prod.fst ++ [e] := by
    intro A
    induction A with
    | nil => simp [setA]
    | cons x r ih =>
      simp only [setA]
      by_cases hx : x.1 = e
      · simp [hx]
      · rw [if_neg hx]
        simp only [List.map_cons,ih]
        by_cases hm : e ∈ r.map Prod.fst
        · rw [if_pos hm,if_pos (List.mem_cons_of_mem _ hm)]
        · rw [if_neg hm,if_neg (by rw [List.mem_cons,not_or]; exact ⟨fun h => hx h.symm,hm⟩)]
          rfl
  rw [key]
  split
  · exact h
  · rename_i hm
    rw [List.nodup_append]
    refine ⟨h,by simp,fun a ha b hb e1 => ?_⟩
    simp at hb
    subst hb e1
    exact hm ha
theorem Wt.step {u : T2 → Nat} {i : Nat} {S : T2 → Prop} {s : As × As} (h : Wt u i S s) (a b : Int) : Wt u i (fun e => S e ∨ (a ≠ b ∧ eOf a b = e)) (stepE i a b s) := by
  obtain ⟨cnt,lst⟩ := s
  by_cases hab : a = b
  · have : stepE i a b (cnt,lst) = (cnt,lst) := by unfold stepE; rw [if_pos (.inl hab)]
    rw [this]
    have e1 : (fun e => S e ∨ (a ≠ b ∧ eOf a b = e)) = S := by funext e; simp [hab]
    rw [e1]
    exact h
  · by_cases hl : getA lst (eOf a b) = some (i : Int)
    · have : stepE i a b (cnt,lst) = (cnt,lst) := by unfold stepE; rw [if_pos (.inr hl)]
      rw [this]
      have hS := (h.lst (eOf a b)).1 hl
      have e1 : (fun e => S e ∨ (a ≠ b ∧ eOf a b = e)) = S := by
        funext e
        refine propext ⟨fun h => h.elim id fun h => h.2 ▸ hS,.inl⟩
      rw [e1]
      exact h
    · rw [stepE_go hab hl]
      have hS : ¬ S (eOf a b) := fun hS => hl ((h.lst _).2 hS)
      have hc := (h.cnt (eOf a b)).2 hS
      simp only at hc
      have hn : (getA cnt (eOf a b)).getD 0 + 1 = ((u (eOf a b) + 1 : Nat) : Int) := by
        rw [hc]
        unfold num
        split
        · rename_i h0; simp [h0]
        · simp
      refine ⟨fun e => ?_,fun e => ?_,fun e v hv => ?_,setA_nd h.nd⟩
      · simp only [getA_set]
        by_cases he : eOf a b = e
        · subst he
          rw [if_pos rfl,hn]
          exact ⟨fun _ => by simp [num],fun hx => absurd (.inr ⟨hab,rfl⟩) hx⟩
        · rw [if_neg he]
          exact ⟨fun hx => (h.cnt e).1 (hx.elim id fun hx => absurd hx.2 he),fun hx => (h.cnt e).2 fun hx2 => hx (.inl hx2)⟩
      · simp only [getA_set]
        by_cases he : eOf a b = e
        · subst he
          rw [if_pos rfl]
          exact ⟨fun _ => .inr ⟨hab,rfl⟩,fun _ => rfl⟩
        · rw [if_neg he]
          exact ⟨fun hx => .inl ((h.lst e).1 hx),fun hx => (h.lst e).2 (hx.elim id fun hx => absurd hx.2 he)⟩
      · simp only [getA_set] at hv
        by_cases he : eOf a b = e
        · rw [if_pos he] at hv
          simp at hv
          omega
        · rw [if_neg he] at hv
          exact h.le e v hv
structure Dn (u : T2 → Nat) (i : Nat) (s : As × As) : Prop where
  cnt : ∀ e,getA s.1 e = num (u e)
  lt : ∀ e v,getA s.2 e = some v → v < i
  nd : (s.1.map Prod.fst).Nodup
theorem fold_done : ∀ (rest : List T3) (u : T2 → Nat) (i : Nat) (s : As × As),Dn u i s → Dn (fun e => u e + usesF rest e) (i + rest.length) (foldE rest i s)
  | [],u,i,s,h => by simpa [usesF,foldE] using h
  | t :: r,u,i,s,h => by
    have h0 : Wt u i (fun _ => False) s := ⟨fun e => ⟨fun h => h.elim,fun _ => h.cnt e⟩,fun e => ⟨fun hx => by have := h.lt e _ hx; omega,fun h => h.elim⟩,fun e v hv => by have := h.lt e v hv; omega,h.nd⟩
    have h3 := ((h0.step (sel t.1 t.2.1 t.2.2 0) (sel t.1 t.2.1 t.2.2 1)).step (sel t.1 t.2.1 t.2.2 1) (sel t.1 t.2.1 t.2.2 2)).step (sel t.1 t.2.1 t.2.2 2) (sel t.1 t.2.1 t.2.2 0)
    have hS : ∀ e,(((False ∨ (t.1 ≠ t.2.1 ∧ eOf t.1 t.2.1 = e)) ∨ (t.2.1 ≠ t.2.2 ∧ eOf t.2.1 t.2.2 = e)) ∨ (t.2.2 ≠ t.1 ∧ eOf t.2.2 t.1 = e)) ↔ hasE t e = true := by
      intro e
      simp only [hasE,decide_eq_true_eq,false_or,or_assoc]
    have hd : Dn (fun e => u e + (if hasE t e then 1 else 0)) (i + 1) (roundE i t 3 0 s) := by
      refine ⟨fun e => ?_,fun e v hv => ?_,h3.nd⟩
      · by_cases hh : hasE t e = true
        · have := (h3.cnt e).1 ((hS e).2 hh)
          rw [if_pos hh]
          exact this
        · have := (h3.cnt e).2 fun hx => hh ((hS e).1 hx)
          rw [if_neg hh]
          exact this
      · have := h3.le e v hv
        omega
    have := fold_done r _ (i + 1) _ hd
    have e1 : (fun e => u e + (if hasE t e then 1 else 0) + usesF r e) = fun e => u e + usesF (t :: r) e := by
      funext e
      simp only [usesF,List.countP_cons]
      omega
    rw [e1] at this
    have e2 : i + 1 + r.length = i + (t :: r).length := by simp; omega
    rw [e2] at this
    exact this
def cntF (ts : List T3) : As := (foldE ts 0 ([],[])).1
theorem cntF_get (ts : List T3) (e : T2) : getA (cntF ts) e = num (usesF ts e) := by
  have := (fold_done ts (fun _ => 0) 0 ([],[]) ⟨fun e => by simp [getA,num],fun e v h => by simp [getA] at h,by simp⟩).cnt e
  simpa [cntF] using this
theorem cntF_nd (ts : List T3) : ((cntF ts).map Prod.fst).Nodup := (fold_done ts (fun _ => 0) 0 ([],[]) ⟨fun e => by simp [getA,num],fun e v h => by simp [getA] at h,by simp⟩).nd
theorem get_nd : ∀ {A : As} {e : T2} {v : Int},(A.map Prod.fst).Nodup → (getA A e = some v ↔ (e,v) ∈ A)
  | [],e,v,_ => by simp [getA]
  | x :: r,e,v,h => by
    have h' := List.nodup_cons.1 h
    simp only [getA,List.mem_cons]
    by_cases hx : x.1 = e
    · rw [if_pos hx]
      have hn : ∀ v,(e,v) ∉ r := fun v hm => h'.1 (hx ▸ List.mem_map_of_mem (f := Prod.fst) hm)
      constructor
      · intro h2
        simp only [Option.some.injEq] at h2
        exact .inl (Prod.ext hx.symm h2.symm)
      · rintro (h2 | h2)
        · rw [← h2]
        · exact absurd h2 (hn v)
    · rw [if_neg hx,get_nd h'.2]
      exact ⟨.inr,fun h2 => h2.elim (fun h3 => absurd (by rw [← h3]) hx) id⟩
theorem pick2_mem {A : As} {seen : List Nat} {e : T2} (hall : ∀ i,i < A.length → i ∈ seen) : e ∈ pick2 A seen ↔ (e,(2 : Int)) ∈ A := by
  simp only [pick2,List.mem_filterMap]
  constructor
  · rintro ⟨i,_,h⟩
    split at h
    · rename_i p hp
      split at h
      · rename_i h2
        simp only [Option.some.injEq] at h
        have := List.mem_of_getElem? hp
        rw [← h, ← h2]
        exact this
      · cases h
    · cases h
  · intro h
    obtain ⟨i,hi,he⟩ := List.getElem_of_mem h
    refine ⟨i,hall i hi, ?_⟩
    rw [List.getElem?_eq_getElem hi,he]
    simp
theorem pick2_nd {A : As} {seen : List Nat} (hA : (A.map Prod.fst).Nodup) (hs : seen.Nodup) : (pick2 A seen).Nodup := by
  unfold pick2
  rw [List.Nodup,List.pairwise_filterMap]
  refine List.Pairwise.imp ?_ hs
  intro i j hij b hb b' hb' e
  subst e
  have get : ∀ k : Nat,(match A[k]? with | some p => if p.2 = 2 then some p.1 else none | none => none) = some b → (A.map Prod.fst)[k]? = some b := by
    intro k hk
    split at hk
    · rename_i p hp
      split at hk
      · simp only [Option.some.injEq] at hk
        rw [List.getElem?_map,hp]
        simp [hk]
      · cases hk
    · cases hk
  have h1 := get i hb
  have h2 := get j hb'
  have hi := getElem?_some_lt h1
  exact hij ((List.getElem?_inj hi hA).1 (h1.trans h2.symm))
def edgesF (ts : List T3) : List T2 := sortN (cntF ts).length (pick2 (cntF ts) (List.range (cntF ts).length))
theorem sorted_any (ts : List T3) {seen : List Nat} (hs : seen.Nodup) (hlt : ∀ i ∈ seen,i < (cntF ts).length) (hall : ∀ i,i < (cntF ts).length → i ∈ seen) : sortN (cntF ts).length (pick2 (cntF ts) seen) = edgesF ts := by
  have h1 : (pick2 (cntF ts) seen).length ≤ (cntF ts).length := Nat.le_trans pick2_len (nodup_le _ _ hs hlt)
  have h2 : (pick2 (cntF ts) (List.range (cntF ts).length)).length ≤ (cntF ts).length := by have := pick2_len (A := cntF ts) (seen := List.range (cntF ts).length); simpa using this
  refine srt_eq (sort_srt _ _ h1 (pick2_nd (cntF_nd ts) hs)) (sort_srt _ _ h2 (pick2_nd (cntF_nd ts) List.nodup_range)) fun e => ?_
  unfold edgesF
  rw [(sort_perm _ _).mem_iff,(sort_perm _ _).mem_iff,pick2_mem hall,pick2_mem (fun i hi => List.mem_range.2 hi)]
theorem edges_mem (ts : List T3) (e : T2) : e ∈ edgesF ts ↔ usesF ts e = 2 := by
  unfold edgesF
  rw [(sort_perm _ _).mem_iff,pick2_mem (fun i hi => List.mem_range.2 hi), ← get_nd (cntF_nd ts),cntF_get]
  unfold num
  split
  · rename_i h; simp [h]
  · simp; omega
theorem edges_srt (ts : List T3) : Srt (edgesF ts) := by
  have h2 : (pick2 (cntF ts) (List.range (cntF ts).length)).length ≤ (cntF ts).length := by have := pick2_len (A := cntF ts) (seen := List.range (cntF ts).length); simpa using this
  exact sort_srt _ _ h2 (pick2_nd (cntF_nd ts) List.nodup_range)
end Go.VI.S0
