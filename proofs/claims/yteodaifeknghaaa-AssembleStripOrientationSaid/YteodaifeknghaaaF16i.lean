/- Chapter 16: what Edges computes, walked: the counts. -/
import Derived.Test.YteodaifeknghaaaF16h
set_option maxRecDepth 100000
set_option linter.unusedSimpArgs false
set_option linter.unusedVariables false
namespace Go.VI.S0
open Go.VI Go.VI.S
abbrev As := List (T2 × Int)
def getA : As → T2 → Option Int
  | [],_ => none
  | p :: r,e => if p.1 = e then some p.2 else getA r e
def setA : As → T2 → Int → As
  | [],e,v => [(e,v)]
  | p :: r,e,v => if p.1 = e then (e,v) :: r else p :: setA r e v
def idxA : As → T2 → Nat
  | [],_ => 0
  | p :: r,e => if p.1 = e then 0 else idxA r e + 1
def encM (A : As) : List (PV × PV) := A.map fun p => (.agg [.int .i64 p.1.1,.int .i64 p.1.2],.int .i64 p.2)
theorem encM_len {A : As} : (encM A).length = A.length := by simp [encM]
theorem ks_ed {p q a b : Int} : keySame (.agg [.int .i64 p,.int .i64 q]) (.agg [.int .i64 a,.int .i64 b]) = some (decide ((a,b) = (p,q))) := by
  simp only [keySame,sameI,Prod.mk.injEq]
  by_cases h1 : p = a
  · by_cases h2 : q = b
    · simp [h1,h2]
    · simp [h1,h2,Ne.symm h2]
  · simp [h1,Ne.symm h1]
theorem find_M {p q : Int} : ∀ {A : As},findE (.agg [.int .i64 p,.int .i64 q]) (encM A) = some ((getA A (p,q)).map (.int .i64))
  | [] => rfl
  | x :: r => by
    show findE _ ((_,_) :: encM r) = _
    rw [findE,ks_ed,find_M (A := r)]
    simp only [getA]
    by_cases h : x.1 = (p,q)
    · have : (x.1.1,x.1.2) = (p,q) := h
      simp [h,this]
    · have : ¬ (x.1.1,x.1.2) = (p,q) := h
      simp [h,this]
theorem set_M {p q v : Int} : ∀ {A : As},setE (.agg [.int .i64 p,.int .i64 q]) (.int .i64 v) (encM A) = encM (setA A (p,q) v)
  | [] => rfl
  | x :: r => by
    show setE _ _ ((_,_) :: encM r) = _
    rw [setE,ks_ed,set_M (A := r)]
    simp only [setA]
    by_cases h : x.1 = (p,q)
    · have : (x.1.1,x.1.2) = (p,q) := h
      simp [h,this,encM]
    · have : ¬ (x.1.1,x.1.2) = (p,q) := h
      simp [h,this,encM]
theorem idx_M {p q : Int} : ∀ {A : As},idxE (.agg [.int .i64 p,.int .i64 q]) (encM A) = idxA A (p,q)
  | [] => rfl
  | x :: r => by
    show idxE _ ((_,_) :: encM r) = _
    rw [idxE,ks_ed,idx_M (A := r)]
    simp only [idxA]
    by_cases h : x.1 = (p,q)
    · have : (x.1.1,x.1.2) = (p,q) := h
      simp [h,this]
    · have : ¬ (x.1.1,x.1.2) = (p,q) := h
      simp [h,this]
theorem getA_set {e e' : T2} {v : Int} : ∀ {A : As},getA (setA A e v) e' = if e = e' then some v else getA A e'
  | [] => by simp [setA,getA]
  | x :: r => by
    simp only [setA]
    by_cases h : x.1 = e
    · rw [if_pos h]
      simp only [getA,h]
      split <;> rfl
    · rw [if_neg h]
      simp only [getA,getA_set (A := r)]
      by_cases h2 : x.1 = e'
      · have : e ≠ e' := fun h3 => h (h2.trans h3.symm)
        simp [h2,this]
      · simp [h2]
theorem get_idx {p q v : Int} : ∀ {A : As},(encM (setA A (p,q) v))[idxA A (p,q)]? = some (.agg [.int .i64 p,.int .i64 q],.int .i64 v)
  | [] => rfl
  | x :: r => by
    simp only [setA,idxA]
    by_cases h : x.1 = (p,q)
    · simp [h,encM]
    · rw [if_neg h,if_neg h]
      show (_ :: encM (setA r (p,q) v))[idxA r (p,q) + 1]? = _
      rw [List.getElem?_cons_succ]
      exact get_idx (A := r)
theorem set_idx {p q v u : Int} : ∀ {A : As},(encM (setA A (p,q) v)).set (idxA A (p,q)) (.agg [.int .i64 p,.int .i64 q],.int .i64 u) = encM (setA A (p,q) u)
  | [] => rfl
  | x :: r => by
    simp only [setA,idxA]
    by_cases h : x.1 = (p,q)
    · simp [h,encM]
    · rw [if_neg h,if_neg h,if_neg h]
      show (_ :: encM (setA r (p,q) v)).set (idxA r (p,q) + 1) _ = _ :: encM (setA r (p,q) u)
      rw [List.set_cons_succ]
      rw [set_idx (A := r)]
theorem setA_len {e : T2} {v : Int} : ∀ {A : As},(setA A e v).length = if (getA A e).isSome then A.length else A.length + 1
  | [] => by simp [setA,getA]
  | x :: r => by
    simp only [setA,getA]
    by_cases h : x.1 = e
    · simp [h]
    · have hg : getA (x :: r) e = getA r e := by simp [getA,h]
      simp only [h,if_false,List.length_cons,setA_len (A := r)]
      split <;> rfl
theorem bnd_set {A : As} {e0 : T2} {v B B' : Int} (hB : ∀ e u,getA A e = some u → 0 ≤ u ∧ u ≤ B) (h0 : 0 ≤ v) (h1 : v ≤ B') (h2 : B ≤ B') : ∀ e u,getA (setA A e0 v) e = some u → 0 ≤ u ∧ u ≤ B' := by
  intro e u h
  rw [getA_set] at h
  by_cases he : e0 = e
  · rw [if_pos he] at h
    simp only [Option.some.injEq] at h
    omega
  · rw [if_neg he] at h
    have := hB e u h
    omega
def eOf (a b : Int) : T2 := (if b < a then b else a,if b > a then b else a)
def stepE (i : Int) (a b : Int) (s : As × As) : As × As :=
  if a = b ∨ getA s.2 (eOf a b) = some i then s else (setA s.1 (eOf a b) ((getA s.1 (eOf a b)).getD 0 + 1),setA s.2 (eOf a b) i)
theorem stepE_go {i a b : Int} {cnt lst : As} (hab : ¬ a = b) (hl : ¬ getA lst (eOf a b) = some i) : stepE i a b (cnt,lst) = (setA cnt (eOf a b) ((getA cnt (eOf a b)).getD 0 + 1),setA lst (eOf a b) i) := by
  unfold stepE
  rw [if_neg (fun h => h.elim hab hl)]
def sel (a b c : Int) : Nat → Int
  | 0 => a
  | 1 => b
  | _ => c
def roundE (i : Int) (t : Int × Int × Int) : Nat → Nat → As × As → As × As
  | 0,_,s => s
  | m + 1,k,s => roundE i t m (k + 1) (stepE i (sel t.1 t.2.1 t.2.2 k) (sel t.1 t.2.1 t.2.2 ((k + 1) % 3)) s)
def foldE : List (Int × Int × Int) → Nat → As × As → As × As
  | [],_,s => s
  | t :: r,i,s => foldE r (i + 1) (roundE i t 3 0 s)
set_option maxHeartbeats 4000000 in
theorem in_loop {ks : List KI} {Q : PEx → Fr → Prop} {i : Nat} (hi : i ≤ 16777216) {a b c : Int} {g3 : Nat} {v18 v19 : PV} {fin : As × As}
    (hpost : ∀ l c1 c2 ob4,c1 = fin.1.length → c2 = fin.2.length → look l 3 = .map (0,0) 1 → look l 4 = .map (0,1) 1 → look l 5 = .sl (0,2) 1 0 0 → look l 18 = v18 → look l 19 = v19 → look l 20 = .int .i64 i →
      kQ E ks Q .norm { lvl := 0,tmps := mk 86 l,heap := [[some (.map (encM fin.1) c1 1),some (.map (encM fin.2) c2 1),some (.mem [] 1 true 2),some (.mem [.agg [.int .i64 a,.int .i64 b,.int .i64 c]] g3 false 3),ob4,none,none,none]],defers := [] }) :
    ∀ (m k : Nat) (s : As × As) (c1 c2 : Nat) (ob4 : Option Ob) (l : List (Nat × PV)),k + m = 3 → roundE i (a,b,c) m k s = fin → (∀ e v,getA s.1 e = some v → 0 ≤ v ∧ v ≤ 3 * i + k) → c1 = s.1.length → c2 = s.2.length →
      look l 3 = .map (0,0) 1 → look l 4 = .map (0,1) 1 → look l 5 = .sl (0,2) 1 0 0 → look l 6 = .int .i64 i → look l 7 = .ptr (0,3) g3 0 0 → look l 18 = v18 → look l 19 = v19 → look l 20 = .int .i64 i → look l 25 = .int .i64 k →
      kQ E (.code p26l1 :: .blk 2 :: ks) Q .norm { lvl := 0,tmps := mk 86 l,heap := [[some (.map (encM s.1) c1 1),some (.map (encM s.2) c2 1),some (.mem [] 1 true 2),some (.mem [.agg [.int .i64 a,.int .i64 b,.int .i64 c]] g3 false 3),ob4,none,none,none]],defers := [] } := by
  intro m
  induction m with
  | zero =>
    intro k s c1 c2 ob4 l hk hf hB e1 e2 h3 h4 h5 h6 h7 h18 h19 h20 h25
    have hk3 : k = 3 := by omega
    subst hk3
    have hs : s = fin := hf
    subst hs
    refine loopK' (c := p26l1) rfl ?_
    repeat' first | ((with_reducible first | refine cS ?_ ?_ | refine oS ?_ ?_ | refine dS ?_ ?_) <;> intro _) | ((with_reducible refine kk ?_ ?_); · rfl) | (simp -implicitDefEqProofs (disch := first | omega | assumption) only [push_cast,simprocAttr,eqTop,eqShL,eqSh,K_seq,h25]) | ((with_reducible first | refine cB ?_ ?_ | refine oB ?_ ?_ | refine dB ?_ ?_) <;> intro _)
    exact hpost _ _ _ _ e1 e2 (by simp [look,look_keepL,h3]) (by simp [look,look_keepL,h4]) (by simp [look,look_keepL,h5]) (by simp [look,look_keepL,h18]) (by simp [look,look_keepL,h19]) (by simp [look,look_keepL,h20])
  | succ m ih =>
    intro k s c1 c2 ob4 l hk hf hB e1 e2 h3 h4 h5 h6 h7 h18 h19 h20 h25
    obtain ⟨cnt,lst⟩ := s
    simp only at e1 e2 hB
    have hkk : k = 0 ∨ k = 1 ∨ k = 2 := by omega
    rcases hkk with rfl | rfl | rfl
    · have h25 : look l 25 = .int .i64 0 := h25
      have hst : roundE i (a,b,c) m 1 (stepE i a b (cnt,lst)) = fin := hf
      by_cases hab : a = b
      · subst hab
        have hs : stepE i a a (cnt,lst) = (cnt,lst) := by simp [stepE]
        rw [hs] at hst
        refine loopK' (c := p26l1) rfl ?_
        repeat' first | ((with_reducible first | refine cS ?_ ?_ | refine oS ?_ ?_ | refine dS ?_ ?_) <;> intro _) | ((with_reducible refine kk ?_ ?_); · rfl) | (simp -implicitDefEqProofs (disch := first | omega | assumption) only [push_cast,simprocAttr,eqTop,eqShL,eqSh,K_seq,h3,h4,h5,h6,h7,h18,h19,h20,h25,keyIs,intsL,find_M,set_M,idx_M]) | ((with_reducible first | refine cB ?_ ?_ | refine oB ?_ ?_ | refine dB ?_ ?_) <;> intro _)
        exact ih 1 (cnt,lst) c1 c2 _ _ (by omega) hst (fun e v h => by have := hB e v h; omega) e1 e2 (by simp [look,look_keepL,h3]) (by simp [look,look_keepL,h4]) (by simp [look,look_keepL,h5]) (by simp [look,look_keepL,h6]) (by simp [look,look_keepL,h7]) (by simp [look,look_keepL,h18]) (by simp [look,look_keepL,h19]) (by simp [look,look_keepL,h20]) (by simp [look])
      · cases hl : getA lst (eOf a b) with
        | none =>
          have hl' : getA lst (if b < a then b else a,if b > a then b else a) = none := hl
          cases hc : getA cnt (eOf a b) with
          | none =>
            have hc' : getA cnt (if b < a then b else a,if b > a then b else a) = none := hc
            have hs : stepE i a b (cnt,lst) = (setA cnt (if b < a then b else a,if b > a then b else a) (1),setA lst (if b < a then b else a,if b > a then b else a) i) := by
              rw [stepE_go hab (by rw [hl]; simp),hc]
              rfl
            rw [hs] at hst
            refine loopK' (c := p26l1) rfl ?_
            repeat' first | ((with_reducible first | refine cS ?_ ?_ | refine oS ?_ ?_ | refine dS ?_ ?_) <;> intro _) | ((with_reducible refine kk ?_ ?_); · rfl) | (simp -implicitDefEqProofs (disch := first | omega | assumption) only [push_cast,simprocAttr,eqTop,eqShL,eqSh,K_seq,h3,h4,h5,h6,h7,h18,h19,h20,h25,keyIs,intsL,find_M,set_M,idx_M,get_idx,set_idx,getA_set,Option.map_none,Option.map_some,Option.getD_none,Option.getD_some,Option.isSome_none,Option.isSome_some,Int.toNat_natCast,hab,hl',hc',stabG,stabS,same_agg,same_ip,same_int,same_bool,same_str,same_vs,same_sl,same_ptr,sameL_nil,sameL_cons]) | ((with_reducible first | refine cB ?_ ?_ | refine oB ?_ ?_ | refine dB ?_ ?_) <;> intro _) | with_reducible refine optD_chk ?_ ?_ | with_reducible refine chkQ_out (by decide) ?_ | with_reducible refine chkQ_in' (by decide) ?_ ?_ | with_reducible exact chkQ_end | with_reducible refine stab1_eq ?_ | with_reducible refine optQ_some' ?_
            refine ih 1 _ _ _ _ _ (by omega) hst (bnd_set hB (by omega) (by omega) (by omega)) (by rw [setA_len,hc',e1]; rfl) (by rw [setA_len,hl',e2]; rfl) (by simp [look,look_keepL,h3]) (by simp [look,look_keepL,h4]) (by simp [look,look_keepL,h5]) (by simp [look,look_keepL,h6]) (by simp [look,look_keepL,h7]) (by simp [look,look_keepL,h18]) (by simp [look,look_keepL,h19]) (by simp [look,look_keepL,h20]) (by simp [look])
          | some v =>
            have hc' : getA cnt (if b < a then b else a,if b > a then b else a) = some v := hc
            have hv := hB _ v hc
            have hs : stepE i a b (cnt,lst) = (setA cnt (if b < a then b else a,if b > a then b else a) (v + 1),setA lst (if b < a then b else a,if b > a then b else a) i) := by
              rw [stepE_go hab (by rw [hl]; simp),hc]
              rfl
            rw [hs] at hst
            refine loopK' (c := p26l1) rfl ?_
            repeat' first | ((with_reducible first | refine cS ?_ ?_ | refine oS ?_ ?_ | refine dS ?_ ?_) <;> intro _) | ((with_reducible refine kk ?_ ?_); · rfl) | (simp -implicitDefEqProofs (disch := first | omega | assumption) only [push_cast,simprocAttr,eqTop,eqShL,eqSh,K_seq,h3,h4,h5,h6,h7,h18,h19,h20,h25,keyIs,intsL,find_M,set_M,idx_M,get_idx,set_idx,getA_set,Option.map_none,Option.map_some,Option.getD_none,Option.getD_some,Option.isSome_none,Option.isSome_some,Int.toNat_natCast,hab,hl',hc',stabG,stabS,same_agg,same_ip,same_int,same_bool,same_str,same_vs,same_sl,same_ptr,sameL_nil,sameL_cons]) | ((with_reducible first | refine cB ?_ ?_ | refine oB ?_ ?_ | refine dB ?_ ?_) <;> intro _) | with_reducible refine optD_chk ?_ ?_ | with_reducible refine chkQ_out (by decide) ?_ | with_reducible refine chkQ_in' (by decide) ?_ ?_ | with_reducible exact chkQ_end | with_reducible refine stab1_eq ?_ | with_reducible refine optQ_some' ?_
            refine ih 1 _ _ _ _ _ (by omega) hst (bnd_set hB (by omega) (by omega) (by omega)) (by rw [setA_len,hc',e1]; rfl) (by rw [setA_len,hl',e2]; rfl) (by simp [look,look_keepL,h3]) (by simp [look,look_keepL,h4]) (by simp [look,look_keepL,h5]) (by simp [look,look_keepL,h6]) (by simp [look,look_keepL,h7]) (by simp [look,look_keepL,h18]) (by simp [look,look_keepL,h19]) (by simp [look,look_keepL,h20]) (by simp [look])
        | some j =>
          have hl' : getA lst (if b < a then b else a,if b > a then b else a) = some j := hl
          by_cases hji : j = i
          · have hs : stepE i a b (cnt,lst) = (cnt,lst) := by simp [stepE,hl,hji]
            rw [hs] at hst
            subst hji
            refine loopK' (c := p26l1) rfl ?_
            repeat' first | ((with_reducible first | refine cS ?_ ?_ | refine oS ?_ ?_ | refine dS ?_ ?_) <;> intro _) | ((with_reducible refine kk ?_ ?_); · rfl) | (simp -implicitDefEqProofs (disch := first | omega | assumption) only [push_cast,simprocAttr,eqTop,eqShL,eqSh,K_seq,h3,h4,h5,h6,h7,h18,h19,h20,h25,keyIs,intsL,find_M,set_M,idx_M,get_idx,set_idx,getA_set,Option.map_none,Option.map_some,Option.getD_none,Option.getD_some,Option.isSome_none,Option.isSome_some,Int.toNat_natCast,hab,hl']) | ((with_reducible first | refine cB ?_ ?_ | refine oB ?_ ?_ | refine dB ?_ ?_) <;> intro _)
            exact ih 1 (cnt,lst) c1 c2 _ _ (by omega) hst (fun e v h => by have := hB e v h; omega) e1 e2 (by simp [look,look_keepL,h3]) (by simp [look,look_keepL,h4]) (by simp [look,look_keepL,h5]) (by simp [look,look_keepL,h6]) (by simp [look,look_keepL,h7]) (by simp [look,look_keepL,h18]) (by simp [look,look_keepL,h19]) (by simp [look,look_keepL,h20]) (by simp [look])
          · cases hc : getA cnt (eOf a b) with
            | none =>
              have hc' : getA cnt (if b < a then b else a,if b > a then b else a) = none := hc
              have hs : stepE i a b (cnt,lst) = (setA cnt (if b < a then b else a,if b > a then b else a) (1),setA lst (if b < a then b else a,if b > a then b else a) i) := by
                rw [stepE_go hab (by rw [hl]; simp [hji]),hc]
                rfl
              rw [hs] at hst
              refine loopK' (c := p26l1) rfl ?_
              repeat' first | ((with_reducible first | refine cS ?_ ?_ | refine oS ?_ ?_ | refine dS ?_ ?_) <;> intro _) | ((with_reducible refine kk ?_ ?_); · rfl) | (simp -implicitDefEqProofs (disch := first | omega | assumption) only [push_cast,simprocAttr,eqTop,eqShL,eqSh,K_seq,h3,h4,h5,h6,h7,h18,h19,h20,h25,keyIs,intsL,find_M,set_M,idx_M,get_idx,set_idx,getA_set,Option.map_none,Option.map_some,Option.getD_none,Option.getD_some,Option.isSome_none,Option.isSome_some,Int.toNat_natCast,hab,hji,hl',hc',stabG,stabS,same_agg,same_ip,same_int,same_bool,same_str,same_vs,same_sl,same_ptr,sameL_nil,sameL_cons]) | ((with_reducible first | refine cB ?_ ?_ | refine oB ?_ ?_ | refine dB ?_ ?_) <;> intro _) | with_reducible refine optD_chk ?_ ?_ | with_reducible refine chkQ_out (by decide) ?_ | with_reducible refine chkQ_in' (by decide) ?_ ?_ | with_reducible exact chkQ_end | with_reducible refine stab1_eq ?_ | with_reducible refine optQ_some' ?_
              refine ih 1 _ _ _ _ _ (by omega) hst (bnd_set hB (by omega) (by omega) (by omega)) (by rw [setA_len,hc',e1]; rfl) (by rw [setA_len,hl',e2]; rfl) (by simp [look,look_keepL,h3]) (by simp [look,look_keepL,h4]) (by simp [look,look_keepL,h5]) (by simp [look,look_keepL,h6]) (by simp [look,look_keepL,h7]) (by simp [look,look_keepL,h18]) (by simp [look,look_keepL,h19]) (by simp [look,look_keepL,h20]) (by simp [look])
            | some v =>
              have hc' : getA cnt (if b < a then b else a,if b > a then b else a) = some v := hc
              have hv := hB _ v hc
              have hs : stepE i a b (cnt,lst) = (setA cnt (if b < a then b else a,if b > a then b else a) (v + 1),setA lst (if b < a then b else a,if b > a then b else a) i) := by
                rw [stepE_go hab (by rw [hl]; simp [hji]),hc]
                rfl
              rw [hs] at hst
              refine loopK' (c := p26l1) rfl ?_
              repeat' first | ((with_reducible first | refine cS ?_ ?_ | refine oS ?_ ?_ | refine dS ?_ ?_) <;> intro _) | ((with_reducible refine kk ?_ ?_); · rfl) | (simp -implicitDefEqProofs (disch := first | omega | assumption) only [push_cast,simprocAttr,eqTop,eqShL,eqSh,K_seq,h3,h4,h5,h6,h7,h18,h19,h20,h25,keyIs,intsL,find_M,set_M,idx_M,get_idx,set_idx,getA_set,Option.map_none,Option.map_some,Option.getD_none,Option.getD_some,Option.isSome_none,Option.isSome_some,Int.toNat_natCast,hab,hji,hl',hc',stabG,stabS,same_agg,same_ip,same_int,same_bool,same_str,same_vs,same_sl,same_ptr,sameL_nil,sameL_cons]) | ((with_reducible first | refine cB ?_ ?_ | refine oB ?_ ?_ | refine dB ?_ ?_) <;> intro _) | with_reducible refine optD_chk ?_ ?_ | with_reducible refine chkQ_out (by decide) ?_ | with_reducible refine chkQ_in' (by decide) ?_ ?_ | with_reducible exact chkQ_end | with_reducible refine stab1_eq ?_ | with_reducible refine optQ_some' ?_
              refine ih 1 _ _ _ _ _ (by omega) hst (bnd_set hB (by omega) (by omega) (by omega)) (by rw [setA_len,hc',e1]; rfl) (by rw [setA_len,hl',e2]; rfl) (by simp [look,look_keepL,h3]) (by simp [look,look_keepL,h4]) (by simp [look,look_keepL,h5]) (by simp [look,look_keepL,h6]) (by simp [look,look_keepL,h7]) (by simp [look,look_keepL,h18]) (by simp [look,look_keepL,h19]) (by simp [look,look_keepL,h20]) (by simp [look])
    · have h25 : look l 25 = .int .i64 1 := h25
      have hst : roundE i (a,b,c) m 2 (stepE i b c (cnt,lst)) = fin := hf
      by_cases hab : b = c
      · subst hab
        have hs : stepE i b b (cnt,lst) = (cnt,lst) := by simp [stepE]
        rw [hs] at hst
        refine loopK' (c := p26l1) rfl ?_
        repeat' first | ((with_reducible first | refine cS ?_ ?_ | refine oS ?_ ?_ | refine dS ?_ ?_) <;> intro _) | ((with_reducible refine kk ?_ ?_); · rfl) | (simp -implicitDefEqProofs (disch := first | omega | assumption) only [push_cast,simprocAttr,eqTop,eqShL,eqSh,K_seq,h3,h4,h5,h6,h7,h18,h19,h20,h25,keyIs,intsL,find_M,set_M,idx_M]) | ((with_reducible first | refine cB ?_ ?_ | refine oB ?_ ?_ | refine dB ?_ ?_) <;> intro _)
        exact ih 2 (cnt,lst) c1 c2 _ _ (by omega) hst (fun e v h => by have := hB e v h; omega) e1 e2 (by simp [look,look_keepL,h3]) (by simp [look,look_keepL,h4]) (by simp [look,look_keepL,h5]) (by simp [look,look_keepL,h6]) (by simp [look,look_keepL,h7]) (by simp [look,look_keepL,h18]) (by simp [look,look_keepL,h19]) (by simp [look,look_keepL,h20]) (by simp [look])
      · cases hl : getA lst (eOf b c) with
        | none =>
          have hl' : getA lst (if c < b then c else b,if c > b then c else b) = none := hl
          cases hc : getA cnt (eOf b c) with
          | none =>
            have hc' : getA cnt (if c < b then c else b,if c > b then c else b) = none := hc
            have hs : stepE i b c (cnt,lst) = (setA cnt (if c < b then c else b,if c > b then c else b) (1),setA lst (if c < b then c else b,if c > b then c else b) i) := by
              rw [stepE_go hab (by rw [hl]; simp),hc]
              rfl
            rw [hs] at hst
            refine loopK' (c := p26l1) rfl ?_
            repeat' first | ((with_reducible first | refine cS ?_ ?_ | refine oS ?_ ?_ | refine dS ?_ ?_) <;> intro _) | ((with_reducible refine kk ?_ ?_); · rfl) | (simp -implicitDefEqProofs (disch := first | omega | assumption) only [push_cast,simprocAttr,eqTop,eqShL,eqSh,K_seq,h3,h4,h5,h6,h7,h18,h19,h20,h25,keyIs,intsL,find_M,set_M,idx_M,get_idx,set_idx,getA_set,Option.map_none,Option.map_some,Option.getD_none,Option.getD_some,Option.isSome_none,Option.isSome_some,Int.toNat_natCast,hab,hl',hc',stabG,stabS,same_agg,same_ip,same_int,same_bool,same_str,same_vs,same_sl,same_ptr,sameL_nil,sameL_cons]) | ((with_reducible first | refine cB ?_ ?_ | refine oB ?_ ?_ | refine dB ?_ ?_) <;> intro _) | with_reducible refine optD_chk ?_ ?_ | with_reducible refine chkQ_out (by decide) ?_ | with_reducible refine chkQ_in' (by decide) ?_ ?_ | with_reducible exact chkQ_end | with_reducible refine stab1_eq ?_ | with_reducible refine optQ_some' ?_
            refine ih 2 _ _ _ _ _ (by omega) hst (bnd_set hB (by omega) (by omega) (by omega)) (by rw [setA_len,hc',e1]; rfl) (by rw [setA_len,hl',e2]; rfl) (by simp [look,look_keepL,h3]) (by simp [look,look_keepL,h4]) (by simp [look,look_keepL,h5]) (by simp [look,look_keepL,h6]) (by simp [look,look_keepL,h7]) (by simp [look,look_keepL,h18]) (by simp [look,look_keepL,h19]) (by simp [look,look_keepL,h20]) (by simp [look])
          | some v =>
            have hc' : getA cnt (if c < b then c else b,if c > b then c else b) = some v := hc
            have hv := hB _ v hc
            have hs : stepE i b c (cnt,lst) = (setA cnt (if c < b then c else b,if c > b then c else b) (v + 1),setA lst (if c < b then c else b,if c > b then c else b) i) := by
              rw [stepE_go hab (by rw [hl]; simp),hc]
              rfl
            rw [hs] at hst
            refine loopK' (c := p26l1) rfl ?_
            repeat' first | ((with_reducible first | refine cS ?_ ?_ | refine oS ?_ ?_ | refine dS ?_ ?_) <;> intro _) | ((with_reducible refine kk ?_ ?_); · rfl) | (simp -implicitDefEqProofs (disch := first | omega | assumption) only [push_cast,simprocAttr,eqTop,eqShL,eqSh,K_seq,h3,h4,h5,h6,h7,h18,h19,h20,h25,keyIs,intsL,find_M,set_M,idx_M,get_idx,set_idx,getA_set,Option.map_none,Option.map_some,Option.getD_none,Option.getD_some,Option.isSome_none,Option.isSome_some,Int.toNat_natCast,hab,hl',hc',stabG,stabS,same_agg,same_ip,same_int,same_bool,same_str,same_vs,same_sl,same_ptr,sameL_nil,sameL_cons]) | ((with_reducible first | refine cB ?_ ?_ | refine oB ?_ ?_ | refine dB ?_ ?_) <;> intro _) | with_reducible refine optD_chk ?_ ?_ | with_reducible refine chkQ_out (by decide) ?_ | with_reducible refine chkQ_in' (by decide) ?_ ?_ | with_reducible exact chkQ_end | with_reducible refine stab1_eq ?_ | with_reducible refine optQ_some' ?_
            refine ih 2 _ _ _ _ _ (by omega) hst (bnd_set hB (by omega) (by omega) (by omega)) (by rw [setA_len,hc',e1]; rfl) (by rw [setA_len,hl',e2]; rfl) (by simp [look,look_keepL,h3]) (by simp [look,look_keepL,h4]) (by simp [look,look_keepL,h5]) (by simp [look,look_keepL,h6]) (by simp [look,look_keepL,h7]) (by simp [look,look_keepL,h18]) (by simp [look,look_keepL,h19]) (by simp [look,look_keepL,h20]) (by simp [look])
        | some j =>
          have hl' : getA lst (if c < b then c else b,if c > b then c else b) = some j := hl
          by_cases hji : j = i
          · have hs : stepE i b c (cnt,lst) = (cnt,lst) := by simp [stepE,hl,hji]
            rw [hs] at hst
            subst hji
            refine loopK' (c := p26l1) rfl ?_
            repeat' first | ((with_reducible first | refine cS ?_ ?_ | refine oS ?_ ?_ | refine dS ?_ ?_) <;> intro _) | ((with_reducible refine kk ?_ ?_); · rfl) | (simp -implicitDefEqProofs (disch := first | omega | assumption) only [push_cast,simprocAttr,eqTop,eqShL,eqSh,K_seq,h3,h4,h5,h6,h7,h18,h19,h20,h25,keyIs,intsL,find_M,set_M,idx_M,get_idx,set_idx,getA_set,Option.map_none,Option.map_some,Option.getD_none,Option.getD_some,Option.isSome_none,Option.isSome_some,Int.toNat_natCast,hab,hl']) | ((with_reducible first | refine cB ?_ ?_ | refine oB ?_ ?_ | refine dB ?_ ?_) <;> intro _)
            exact ih 2 (cnt,lst) c1 c2 _ _ (by omega) hst (fun e v h => by have := hB e v h; omega) e1 e2 (by simp [look,look_keepL,h3]) (by simp [look,look_keepL,h4]) (by simp [look,look_keepL,h5]) (by simp [look,look_keepL,h6]) (by simp [look,look_keepL,h7]) (by simp [look,look_keepL,h18]) (by simp [look,look_keepL,h19]) (by simp [look,look_keepL,h20]) (by simp [look])
          · cases hc : getA cnt (eOf b c) with
            | none =>
              have hc' : getA cnt (if c < b then c else b,if c > b then c else b) = none := hc
              have hs : stepE i b c (cnt,lst) = (setA cnt (if c < b then c else b,if c > b then c else b) (1),setA lst (if c < b then c else b,if c > b then c else b) i) := by
                rw [stepE_go hab (by rw [hl]; simp [hji]),hc]
                rfl
              rw [hs] at hst
              refine loopK' (c := p26l1) rfl ?_
              repeat' first | ((with_reducible first | refine cS ?_ ?_ | refine oS ?_ ?_ | refine dS ?_ ?_) <;> intro _) | ((with_reducible refine kk ?_ ?_); · rfl) | (simp -implicitDefEqProofs (disch := first | omega | assumption) only [push_cast,simprocAttr,eqTop,eqShL,eqSh,K_seq,h3,h4,h5,h6,h7,h18,h19,h20,h25,keyIs,intsL,find_M,set_M,idx_M,get_idx,set_idx,getA_set,Option.map_none,Option.map_some,Option.getD_none,Option.getD_some,Option.isSome_none,Option.isSome_some,Int.toNat_natCast,hab,hji,hl',hc',stabG,stabS,same_agg,same_ip,same_int,same_bool,same_str,same_vs,same_sl,same_ptr,sameL_nil,sameL_cons]) | ((with_reducible first | refine cB ?_ ?_ | refine oB ?_ ?_ | refine dB ?_ ?_) <;> intro _) | with_reducible refine optD_chk ?_ ?_ | with_reducible refine chkQ_out (by decide) ?_ | with_reducible refine chkQ_in' (by decide) ?_ ?_ | with_reducible exact chkQ_end | with_reducible refine stab1_eq ?_ | with_reducible refine optQ_some' ?_
              refine ih 2 _ _ _ _ _ (by omega) hst (bnd_set hB (by omega) (by omega) (by omega)) (by rw [setA_len,hc',e1]; rfl) (by rw [setA_len,hl',e2]; rfl) (by simp [look,look_keepL,h3]) (by simp [look,look_keepL,h4]) (by simp [look,look_keepL,h5]) (by simp [look,look_keepL,h6]) (by simp [look,look_keepL,h7]) (by simp [look,look_keepL,h18]) (by simp [look,look_keepL,h19]) (by simp [look,look_keepL,h20]) (by simp [look])
            | some v =>
              have hc' : getA cnt (if c < b then c else b,if c > b then c else b) = some v := hc
              have hv := hB _ v hc
              have hs : stepE i b c (cnt,lst) = (setA cnt (if c < b then c else b,if c > b then c else b) (v + 1),setA lst (if c < b then c else b,if c > b then c else b) i) := by
                rw [stepE_go hab (by rw [hl]; simp [hji]),hc]
                rfl
              rw [hs] at hst
              refine loopK' (c := p26l1) rfl ?_
              repeat' first | ((with_reducible first | refine cS ?_ ?_ | refine oS ?_ ?_ | refine dS ?_ ?_) <;> intro _) | ((with_reducible refine kk ?_ ?_); · rfl) | (simp -implicitDefEqProofs (disch := first | omega | assumption) only [push_cast,simprocAttr,eqTop,eqShL,eqSh,K_seq,h3,h4,h5,h6,h7,h18,h19,h20,h25,keyIs,intsL,find_M,set_M,idx_M,get_idx,set_idx,getA_set,Option.map_none,Option.map_some,Option.getD_none,Option.getD_some,Option.isSome_none,Option.isSome_some,Int.toNat_natCast,hab,hji,hl',hc',stabG,stabS,same_agg,same_ip,same_int,same_bool,same_str,same_vs,same_sl,same_ptr,sameL_nil,sameL_cons]) | ((with_reducible first | refine cB ?_ ?_ | refine oB ?_ ?_ | refine dB ?_ ?_) <;> intro _) | with_reducible refine optD_chk ?_ ?_ | with_reducible refine chkQ_out (by decide) ?_ | with_reducible refine chkQ_in' (by decide) ?_ ?_ | with_reducible exact chkQ_end | with_reducible refine stab1_eq ?_ | with_reducible refine optQ_some' ?_
              refine ih 2 _ _ _ _ _ (by omega) hst (bnd_set hB (by omega) (by omega) (by omega)) (by rw [setA_len,hc',e1]; rfl) (by rw [setA_len,hl',e2]; rfl) (by simp [look,look_keepL,h3]) (by simp [look,look_keepL,h4]) (by simp [look,look_keepL,h5]) (by simp [look,look_keepL,h6]) (by simp [look,look_keepL,h7]) (by simp [look,look_keepL,h18]) (by simp [look,look_keepL,h19]) (by simp [look,look_keepL,h20]) (by simp [look])
    · have h25 : look l 25 = .int .i64 2 := h25
      have hst : roundE i (a,b,c) m 3 (stepE i c a (cnt,lst)) = fin := hf
      by_cases hab : c = a
      · subst hab
        have hs : stepE i c c (cnt,lst) = (cnt,lst) := by simp [stepE]
        rw [hs] at hst
        refine loopK' (c := p26l1) rfl ?_
        repeat' first | ((with_reducible first | refine cS ?_ ?_ | refine oS ?_ ?_ | refine dS ?_ ?_) <;> intro _) | ((with_reducible refine kk ?_ ?_); · rfl) | (simp -implicitDefEqProofs (disch := first | omega | assumption) only [push_cast,simprocAttr,eqTop,eqShL,eqSh,K_seq,h3,h4,h5,h6,h7,h18,h19,h20,h25,keyIs,intsL,find_M,set_M,idx_M]) | ((with_reducible first | refine cB ?_ ?_ | refine oB ?_ ?_ | refine dB ?_ ?_) <;> intro _)
        exact ih 3 (cnt,lst) c1 c2 _ _ (by omega) hst (fun e v h => by have := hB e v h; omega) e1 e2 (by simp [look,look_keepL,h3]) (by simp [look,look_keepL,h4]) (by simp [look,look_keepL,h5]) (by simp [look,look_keepL,h6]) (by simp [look,look_keepL,h7]) (by simp [look,look_keepL,h18]) (by simp [look,look_keepL,h19]) (by simp [look,look_keepL,h20]) (by simp [look])
      · cases hl : getA lst (eOf c a) with
        | none =>
          have hl' : getA lst (if a < c then a else c,if a > c then a else c) = none := hl
          cases hc : getA cnt (eOf c a) with
          | none =>
            have hc' : getA cnt (if a < c then a else c,if a > c then a else c) = none := hc
            have hs : stepE i c a (cnt,lst) = (setA cnt (if a < c then a else c,if a > c then a else c) (1),setA lst (if a < c then a else c,if a > c then a else c) i) := by
              rw [stepE_go hab (by rw [hl]; simp),hc]
              rfl
            rw [hs] at hst
            refine loopK' (c := p26l1) rfl ?_
            repeat' first | ((with_reducible first | refine cS ?_ ?_ | refine oS ?_ ?_ | refine dS ?_ ?_) <;> intro _) | ((with_reducible refine kk ?_ ?_); · rfl) | (simp -implicitDefEqProofs (disch := first | omega | assumption) only [push_cast,simprocAttr,eqTop,eqShL,eqSh,K_seq,h3,h4,h5,h6,h7,h18,h19,h20,h25,keyIs,intsL,find_M,set_M,idx_M,get_idx,set_idx,getA_set,Option.map_none,Option.map_some,Option.getD_none,Option.getD_some,Option.isSome_none,Option.isSome_some,Int.toNat_natCast,hab,hl',hc',stabG,stabS,same_agg,same_ip,same_int,same_bool,same_str,same_vs,same_sl,same_ptr,sameL_nil,sameL_cons]) | ((with_reducible first | refine cB ?_ ?_ | refine oB ?_ ?_ | refine dB ?_ ?_) <;> intro _) | with_reducible refine optD_chk ?_ ?_ | with_reducible refine chkQ_out (by decide) ?_ | with_reducible refine chkQ_in' (by decide) ?_ ?_ | with_reducible exact chkQ_end | with_reducible refine stab1_eq ?_ | with_reducible refine optQ_some' ?_
            refine ih 3 _ _ _ _ _ (by omega) hst (bnd_set hB (by omega) (by omega) (by omega)) (by rw [setA_len,hc',e1]; rfl) (by rw [setA_len,hl',e2]; rfl) (by simp [look,look_keepL,h3]) (by simp [look,look_keepL,h4]) (by simp [look,look_keepL,h5]) (by simp [look,look_keepL,h6]) (by simp [look,look_keepL,h7]) (by simp [look,look_keepL,h18]) (by simp [look,look_keepL,h19]) (by simp [look,look_keepL,h20]) (by simp [look])
          | some v =>
            have hc' : getA cnt (if a < c then a else c,if a > c then a else c) = some v := hc
            have hv := hB _ v hc
            have hs : stepE i c a (cnt,lst) = (setA cnt (if a < c then a else c,if a > c then a else c) (v + 1),setA lst (if a < c then a else c,if a > c then a else c) i) := by
              rw [stepE_go hab (by rw [hl]; simp),hc]
              rfl
            rw [hs] at hst
            refine loopK' (c := p26l1) rfl ?_
            repeat' first | ((with_reducible first | refine cS ?_ ?_ | refine oS ?_ ?_ | refine dS ?_ ?_) <;> intro _) | ((with_reducible refine kk ?_ ?_); · rfl) | (simp -implicitDefEqProofs (disch := first | omega | assumption) only [push_cast,simprocAttr,eqTop,eqShL,eqSh,K_seq,h3,h4,h5,h6,h7,h18,h19,h20,h25,keyIs,intsL,find_M,set_M,idx_M,get_idx,set_idx,getA_set,Option.map_none,Option.map_some,Option.getD_none,Option.getD_some,Option.isSome_none,Option.isSome_some,Int.toNat_natCast,hab,hl',hc',stabG,stabS,same_agg,same_ip,same_int,same_bool,same_str,same_vs,same_sl,same_ptr,sameL_nil,sameL_cons]) | ((with_reducible first | refine cB ?_ ?_ | refine oB ?_ ?_ | refine dB ?_ ?_) <;> intro _) | with_reducible refine optD_chk ?_ ?_ | with_reducible refine chkQ_out (by decide) ?_ | with_reducible refine chkQ_in' (by decide) ?_ ?_ | with_reducible exact chkQ_end | with_reducible refine stab1_eq ?_ | with_reducible refine optQ_some' ?_
            refine ih 3 _ _ _ _ _ (by omega) hst (bnd_set hB (by omega) (by omega) (by omega)) (by rw [setA_len,hc',e1]; rfl) (by rw [setA_len,hl',e2]; rfl) (by simp [look,look_keepL,h3]) (by simp [look,look_keepL,h4]) (by simp [look,look_keepL,h5]) (by simp [look,look_keepL,h6]) (by simp [look,look_keepL,h7]) (by simp [look,look_keepL,h18]) (by simp [look,look_keepL,h19]) (by simp [look,look_keepL,h20]) (by simp [look])
        | some j =>
          have hl' : getA lst (if a < c then a else c,if a > c then a else c) = some j := hl
          by_cases hji : j = i
          · have hs : stepE i c a (cnt,lst) = (cnt,lst) := by simp [stepE,hl,hji]
            rw [hs] at hst
            subst hji
            refine loopK' (c := p26l1) rfl ?_
            repeat' first | ((with_reducible first | refine cS ?_ ?_ | refine oS ?_ ?_ | refine dS ?_ ?_) <;> intro _) | ((with_reducible refine kk ?_ ?_); · rfl) | (simp -implicitDefEqProofs (disch := first | omega | assumption) only [push_cast,simprocAttr,eqTop,eqShL,eqSh,K_seq,h3,h4,h5,h6,h7,h18,h19,h20,h25,keyIs,intsL,find_M,set_M,idx_M,get_idx,set_idx,getA_set,Option.map_none,Option.map_some,Option.getD_none,Option.getD_some,Option.isSome_none,Option.isSome_some,Int.toNat_natCast,hab,hl']) | ((with_reducible first | refine cB ?_ ?_ | refine oB ?_ ?_ | refine dB ?_ ?_) <;> intro _)
            exact ih 3 (cnt,lst) c1 c2 _ _ (by omega) hst (fun e v h => by have := hB e v h; omega) e1 e2 (by simp [look,look_keepL,h3]) (by simp [look,look_keepL,h4]) (by simp [look,look_keepL,h5]) (by simp [look,look_keepL,h6]) (by simp [look,look_keepL,h7]) (by simp [look,look_keepL,h18]) (by simp [look,look_keepL,h19]) (by simp [look,look_keepL,h20]) (by simp [look])
          · cases hc : getA cnt (eOf c a) with
            | none =>
              have hc' : getA cnt (if a < c then a else c,if a > c then a else c) = none := hc
              have hs : stepE i c a (cnt,lst) = (setA cnt (if a < c then a else c,if a > c then a else c) (1),setA lst (if a < c then a else c,if a > c then a else c) i) := by
                rw [stepE_go hab (by rw [hl]; simp [hji]),hc]
                rfl
              rw [hs] at hst
              refine loopK' (c := p26l1) rfl ?_
              repeat' first | ((with_reducible first | refine cS ?_ ?_ | refine oS ?_ ?_ | refine dS ?_ ?_) <;> intro _) | ((with_reducible refine kk ?_ ?_); · rfl) | (simp -implicitDefEqProofs (disch := first | omega | assumption) only [push_cast,simprocAttr,eqTop,eqShL,eqSh,K_seq,h3,h4,h5,h6,h7,h18,h19,h20,h25,keyIs,intsL,find_M,set_M,idx_M,get_idx,set_idx,getA_set,Option.map_none,Option.map_some,Option.getD_none,Option.getD_some,Option.isSome_none,Option.isSome_some,Int.toNat_natCast,hab,hji,hl',hc',stabG,stabS,same_agg,same_ip,same_int,same_bool,same_str,same_vs,same_sl,same_ptr,sameL_nil,sameL_cons]) | ((with_reducible first | refine cB ?_ ?_ | refine oB ?_ ?_ | refine dB ?_ ?_) <;> intro _) | with_reducible refine optD_chk ?_ ?_ | with_reducible refine chkQ_out (by decide) ?_ | with_reducible refine chkQ_in' (by decide) ?_ ?_ | with_reducible exact chkQ_end | with_reducible refine stab1_eq ?_ | with_reducible refine optQ_some' ?_
              refine ih 3 _ _ _ _ _ (by omega) hst (bnd_set hB (by omega) (by omega) (by omega)) (by rw [setA_len,hc',e1]; rfl) (by rw [setA_len,hl',e2]; rfl) (by simp [look,look_keepL,h3]) (by simp [look,look_keepL,h4]) (by simp [look,look_keepL,h5]) (by simp [look,look_keepL,h6]) (by simp [look,look_keepL,h7]) (by simp [look,look_keepL,h18]) (by simp [look,look_keepL,h19]) (by simp [look,look_keepL,h20]) (by simp [look])
            | some v =>
              have hc' : getA cnt (if a < c then a else c,if a > c then a else c) = some v := hc
              have hv := hB _ v hc
              have hs : stepE i c a (cnt,lst) = (setA cnt (if a < c then a else c,if a > c then a else c) (v + 1),setA lst (if a < c then a else c,if a > c then a else c) i) := by
                rw [stepE_go hab (by rw [hl]; simp [hji]),hc]
                rfl
              rw [hs] at hst
              refine loopK' (c := p26l1) rfl ?_
              repeat' first | ((with_reducible first | refine cS ?_ ?_ | refine oS ?_ ?_ | refine dS ?_ ?_) <;> intro _) | ((with_reducible refine kk ?_ ?_); · rfl) | (simp -implicitDefEqProofs (disch := first | omega | assumption) only [push_cast,simprocAttr,eqTop,eqShL,eqSh,K_seq,h3,h4,h5,h6,h7,h18,h19,h20,h25,keyIs,intsL,find_M,set_M,idx_M,get_idx,set_idx,getA_set,Option.map_none,Option.map_some,Option.getD_none,Option.getD_some,Option.isSome_none,Option.isSome_some,Int.toNat_natCast,hab,hji,hl',hc',stabG,stabS,same_agg,same_ip,same_int,same_bool,same_str,same_vs,same_sl,same_ptr,sameL_nil,sameL_cons]) | ((with_reducible first | refine cB ?_ ?_ | refine oB ?_ ?_ | refine dB ?_ ?_) <;> intro _) | with_reducible refine optD_chk ?_ ?_ | with_reducible refine chkQ_out (by decide) ?_ | with_reducible refine chkQ_in' (by decide) ?_ ?_ | with_reducible exact chkQ_end | with_reducible refine stab1_eq ?_ | with_reducible refine optQ_some' ?_
              refine ih 3 _ _ _ _ _ (by omega) hst (bnd_set hB (by omega) (by omega) (by omega)) (by rw [setA_len,hc',e1]; rfl) (by rw [setA_len,hl',e2]; rfl) (by simp [look,look_keepL,h3]) (by simp [look,look_keepL,h4]) (by simp [look,look_keepL,h5]) (by simp [look,look_keepL,h6]) (by simp [look,look_keepL,h7]) (by simp [look,look_keepL,h18]) (by simp [look,look_keepL,h19]) (by simp [look,look_keepL,h20]) (by simp [look])
end Go.VI.S0
