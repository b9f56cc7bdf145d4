/- Chapter 16: the reference's edges: how often an edge is used; how one is put in its place. -/
import Derived.Test.YteodaifeknghaaaF16o
set_option maxRecDepth 100000
set_option linter.unusedSimpArgs false
set_option linter.unusedVariables false
namespace Go.VI.S
open Go.VI
open Go.VI.S0 (T2 ed lessF encE encE_len encE_take encE_hsz encE_apps encE_cons' encE_app' encE_nil encE_takeN encE_dropN encE_low)
def usesR (ts : List T3) (p q : Int) : Nat := ts.countP fun t => hasR t.1 t.2.1 t.2.2 p q
theorem encT_get' {ts pre r : List T3} {t : T3} (h : ts = pre ++ t :: r) : (encT ts)[pre.length]? = some (.agg [.int .i64 t.1,.int .i64 t.2.1,.int .i64 t.2.2]) := by
  subst h
  simp [encT,tri]
theorem uses_loop {f : Fl} {ts : List T3} (hts : ts.length ≤ 1048576) {p q : Int} {ks : List KI} {Q : PEx → Fr → Prop} {fin : Nat}
    (hpost : ∀ l,look l 5 = .int .i64 fin → kQ E ks Q .norm { lvl := 0,tmps := mk 22 l,heap := [[]],defers := [] }) :
    ∀ (rest pre : List T3) (n : Nat) (l : List (Nat × PV)),ts = pre ++ rest → n + usesR rest p q = fin → n ≤ pre.length →
      look l 0 = .vs f (encT ts) → look l 3 = .ip [.int .i64 p,.int .i64 q] → look l 5 = .int .i64 n → look l 6 = .int .i64 pre.length →
      kQ E (.code p30l0 :: .blk 0 :: ks) Q .norm { lvl := 0,tmps := mk 22 l,heap := [[]],defers := [] } := by
  intro rest
  induction rest with
  | nil =>
    intro pre n l hp hf hn h0 h3 h5 h6
    have hlen : ts.length = pre.length := by rw [hp]; simp
    refine loopK' (c := p30l0) rfl ?_
    repeat' first | ((with_reducible first | refine cS ?_ ?_ | refine oS ?_ ?_ | refine dS ?_ ?_) <;> intro _) | ((with_reducible refine kk ?_ ?_); · rfl) | (simp -implicitDefEqProofs (disch := first | omega | assumption) only [push_cast,simprocAttr,eqTop,eqShL,eqSh,K_seq,h0,h3,h5,h6,encT_len,hlen]) | ((with_reducible first | refine cB ?_ ?_ | refine oB ?_ ?_ | refine dB ?_ ?_) <;> intro _)
    have : n = fin := by simpa [usesR] using hf
    subst this
    exact hpost _ (by simp [look,look_keepL,h5])
  | cons t rest ih =>
    intro pre n l hp hf hn h0 h3 h5 h6
    have hlen : ts.length = pre.length + rest.length + 1 := by rw [hp]; simp; omega
    have hg := encT_get' hp
    refine loopK' (c := p30l0) rfl ?_
    cases hh : hasR t.1 t.2.1 t.2.2 p q with
    | true =>
      repeat' first | ((with_reducible first | refine cS ?_ ?_ | refine oS ?_ ?_ | refine dS ?_ ?_) <;> intro _) | ((with_reducible refine kk ?_ ?_); · rfl) | (simp -implicitDefEqProofs (disch := first | omega | assumption) only [push_cast,simprocAttr,eqTop,eqShL,eqSh,K_seq,h0,h3,h5,h6,encT_len,hlen,Int.toNat_natCast,hg,has_ok,hh]) | ((with_reducible first | refine cB ?_ ?_ | refine oB ?_ ?_ | refine dB ?_ ?_) <;> intro _)
      exact ih (pre ++ [t]) (n + 1) _ (by simp [hp]) (by rw [← hf]; simp [usesR,List.countP_cons,hh]; omega) (by simp; omega) (by simp [look,look_keepL,h0]) (by simp [look,look_keepL,h3]) (by simp [look,look_keepL]) (by simp [look])
    | false =>
      repeat' first | ((with_reducible first | refine cS ?_ ?_ | refine oS ?_ ?_ | refine dS ?_ ?_) <;> intro _) | ((with_reducible refine kk ?_ ?_); · rfl) | (simp -implicitDefEqProofs (disch := first | omega | assumption) only [push_cast,simprocAttr,eqTop,eqShL,eqSh,K_seq,h0,h3,h5,h6,encT_len,hlen,Int.toNat_natCast,hg,has_ok,hh]) | ((with_reducible first | refine cB ?_ ?_ | refine oB ?_ ?_ | refine dB ?_ ?_) <;> intro _)
      exact ih (pre ++ [t]) n _ (by simp [hp]) (by rw [← hf]; simp [usesR,List.countP_cons,hh]) (by simp; omega) (by simp [look,look_keepL,h0]) (by simp [look,look_keepL,h3]) (by simp [look,look_keepL,h5]) (by simp [look])
theorem uses_ok (f : Fl) (ts : List T3) (hts : ts.length ≤ 1048576) (p q : Int) (h : Heap) : doCall E (callR E) 30 [.vs f (encT ts),.agg [.int .i64 p,.int .i64 q]] h = some (.int .i64 (usesR ts p q),h) := by
  refine call_pure (pf := p30) rfl rfl rfl rfl (by simp [PV.lowL,PV.low]) (by simp [PV.low,PV.lowL]) ?_ h
  show kQ E _ (endQ [⟨4,none⟩] _) .norm { lvl := 0,tmps := mk 22 [(0,.vs f (encT ts)),(1,.agg [.int .i64 p,.int .i64 q])],heap := [[]],defers := [] }
  repeat' first | ((with_reducible first | refine cS ?_ ?_ | refine oS ?_ ?_ | refine dS ?_ ?_) <;> intro _) | ((with_reducible refine kk ?_ ?_); · rfl) | (simp -implicitDefEqProofs (disch := first | omega | assumption) only [push_cast,simprocAttr,eqTop,eqShL,eqSh,K_seq]) | ((with_reducible first | refine cB ?_ ?_ | refine oB ?_ ?_ | refine dB ?_ ?_) <;> intro _)
  refine uses_loop (f := f) hts (p := p) (q := q) (fin := usesR ts p q) ?_ ts [] 0 _ rfl (by simp) (by simp) (by simp [look,look_keepL]) (by simp [look]) (by simp [look]) (by simp [look])
  intro l h5
  repeat' first | ((with_reducible first | refine cS ?_ ?_ | refine oS ?_ ?_ | refine dS ?_ ?_) <;> intro _) | ((with_reducible refine kk ?_ ?_); · rfl) | (simp -implicitDefEqProofs (disch := first | omega | assumption) only [push_cast,simprocAttr,eqTop,eqShL,eqSh,K_seq,h5]) | ((with_reducible first | refine cB ?_ ?_ | refine oB ?_ ?_ | refine dB ?_ ?_) <;> intro _)
def insF : List T2 → T2 → List T2
  | [],e => [e]
  | x :: r,e => if lessF x e then x :: insF r e else if x = e then x :: r else e :: x :: r
theorem insF_app : ∀ {A B : List T2} {e : T2},(∀ x ∈ A,lessF x e = true) → insF (A ++ B) e = A ++ insF B e
  | [],B,e,_ => rfl
  | x :: A,B,e,h => by
    show insF (x :: (A ++ B)) e = _
    rw [insF,if_pos (h x (by simp)),insF_app (fun y hy => h y (List.mem_cons_of_mem _ hy))]
    rfl
def flE (l : List T2) : Fl := if l = [] then .nil else .any
theorem encE_at {l A r : List T2} {x : T2} (h : l = A ++ x :: r) : (encE l)[A.length]? = some (.agg [.int .i64 x.1,.int .i64 x.2]) := by
  subst h
  simp [encE,ed]
theorem with_loop {l : List T2} (hl : l.length ≤ 16777216) {f : Fl} {p q : Int} {ks : List KI} {Q : PEx → Fr → Prop}
    (hpost : ∀ (A B : List T2) t,l = A ++ B → (∀ x ∈ A,lessF x (p,q) = true) → (∀ x r,B = x :: r → lessF x (p,q) = false) → look t 0 = .vs f (encE l) → look t 3 = .ip [.int .i64 p,.int .i64 q] → look t 5 = .int .i64 A.length → kQ E ks Q .norm { lvl := 0,tmps := mk 70 t,heap := [[none,none,none,none]],defers := [] }) :
    ∀ (B A : List T2) (t : List (Nat × PV)),l = A ++ B → (∀ x ∈ A,lessF x (p,q) = true) → look t 0 = .vs f (encE l) → look t 3 = .ip [.int .i64 p,.int .i64 q] → look t 5 = .int .i64 A.length →
      kQ E (.code p31l0 :: .blk 0 :: ks) Q .norm { lvl := 0,tmps := mk 70 t,heap := [[none,none,none,none]],defers := [] } := by
  intro B
  induction B with
  | nil =>
    intro A t hp hA h0 h3 h5
    have hlen : l.length = A.length := by rw [hp]; simp
    refine loopK' (c := p31l0) rfl ?_
    repeat' first | ((with_reducible first | refine cS ?_ ?_ | refine oS ?_ ?_ | refine dS ?_ ?_) <;> intro _) | ((with_reducible refine kk ?_ ?_); · rfl) | (simp -implicitDefEqProofs (disch := first | omega | assumption) only [push_cast,simprocAttr,eqTop,eqShL,eqSh,K_seq,h0,h3,h5,encE_len,hlen]) | ((with_reducible first | refine cB ?_ ?_ | refine oB ?_ ?_ | refine dB ?_ ?_) <;> intro _)
    exact hpost A [] _ hp hA (by simp) (by simp [look,look_keepL,h0]) (by simp [look,look_keepL,h3]) (by simp [look,look_keepL,h5])
  | cons x B ih =>
    intro A t hp hA h0 h3 h5
    have hlen : l.length = A.length + B.length + 1 := by rw [hp]; simp; omega
    have hg := encE_at hp
    cases hl : lessF x (p,q) with
    | true =>
      have hx := S0.less_iff.1 hl
      simp only at hx
      refine loopK' (c := p31l0) rfl ?_
      repeat' first | ((with_reducible first | refine cS ?_ ?_ | refine oS ?_ ?_ | refine dS ?_ ?_) <;> intro _) | ((with_reducible refine kk ?_ ?_); · rfl) | (simp -implicitDefEqProofs (disch := first | omega | assumption) only [push_cast,simprocAttr,eqTop,eqShL,eqSh,K_seq,h0,h3,h5,encE_len,hlen,Int.toNat_natCast,hg]) | ((with_reducible first | refine cB ?_ ?_ | refine oB ?_ ?_ | refine dB ?_ ?_) <;> intro _)
      all_goals first | (exfalso; omega) | skip
      all_goals exact ih (A ++ [x]) _ (by simp [hp]) (by intro y hy; rcases List.mem_append.1 hy with h | h; exact hA y h; simp at h; exact h ▸ hl) (by simp [look,look_keepL,h0]) (by simp [look,look_keepL,h3]) (by simp [look])
    | false =>
      have hx : ¬ (x.1 < p ∨ x.1 = p ∧ x.2 < q) := fun h => by rw [S0.less_iff.2 h] at hl; cases hl
      refine loopK' (c := p31l0) rfl ?_
      repeat' first | ((with_reducible first | refine cS ?_ ?_ | refine oS ?_ ?_ | refine dS ?_ ?_) <;> intro _) | ((with_reducible refine kk ?_ ?_); · rfl) | (simp -implicitDefEqProofs (disch := first | omega | assumption) only [push_cast,simprocAttr,eqTop,eqShL,eqSh,K_seq,h0,h3,h5,encE_len,hlen,Int.toNat_natCast,hg]) | ((with_reducible first | refine cB ?_ ?_ | refine oB ?_ ?_ | refine dB ?_ ?_) <;> intro _)
      all_goals first | (exfalso; omega) | skip
      all_goals exact hpost A (x :: B) _ hp hA (by intro y r e; cases e; exact hl) (by simp [look,look_keepL,h0]) (by simp [look,look_keepL,h3]) (by simp [look,look_keepL,h5])
theorem with_ok (l : List T2) (hl : l.length ≤ 16777215) (p q : Int) (h : Heap) : doCall E (callR E) 31 [.vs (flE l) (encE l),.agg [.int .i64 p,.int .i64 q]] h = some (.vs .any (encE (insF l (p,q))),h) := by
  refine call_pureP (pf := p31) rfl rfl rfl rfl (by simp [PV.lowL,PV.low]) ?_ h
  show kQ E _ (endP [⟨4,none⟩] _) .norm { lvl := 0,tmps := mk 70 [(0,.vs (flE l) (encE l)),(1,.agg [.int .i64 p,.int .i64 q])],heap := [[none,none,none,none]],defers := [] }
  repeat' first | ((with_reducible first | refine cS ?_ ?_ | refine oS ?_ ?_ | refine dS ?_ ?_) <;> intro _) | ((with_reducible refine kk ?_ ?_); · rfl) | (simp -implicitDefEqProofs (disch := first | omega | assumption) only [push_cast,simprocAttr,eqTop,eqShL,eqSh,K_seq]) | ((with_reducible first | refine cB ?_ ?_ | refine oB ?_ ?_ | refine dB ?_ ?_) <;> intro _)
  refine with_loop (l := l) (by omega) (f := flE l) (p := p) (q := q) ?_ l [] _ rfl (by simp) (by simp [look,look_keepL]) (by simp [look]) (by simp [look])
  intro A B t hlAB hA hB h0 h3 h5
  have hins : insF l (p,q) = A ++ insF B (p,q) := by rw [hlAB]; exact insF_app hA
  have hlen : l.length = A.length + B.length := by rw [hlAB]; simp
  have hT : (encE l).take A.length = encE A := by rw [encE_takeN,hlAB]; simp
  have hD : (encE l).drop A.length = encE B := by rw [encE_dropN,hlAB]; simp
  cases B with
  | nil =>
    have hi : insF l (p,q) = A ++ [(p,q)] := hins
    simp only [List.length_nil] at hlen
    rcases Nat.eq_zero_or_pos A.length with a0 | a0
    · have := List.eq_nil_of_length_eq_zero a0
      subst this
      have hl0 : l = [] := by rw [hlAB]; rfl
      subst hl0
      rw [hi]
      repeat' first | ((with_reducible first | refine cS ?_ ?_ | refine oS ?_ ?_ | refine dS ?_ ?_) <;> intro _) | ((with_reducible refine kk ?_ ?_); · rfl) | (simp -implicitDefEqProofs (disch := first | omega | assumption) only [push_cast,simprocAttr,eqTop,eqShL,eqSh,K_seq,h0,h3,h5,encE_nil,boundsE,bound,Option.isSome_none,Bool.false_eq_true,if_false,endP_ret,snap_sl4]) | ((with_reducible first | refine cB ?_ ?_ | refine oB ?_ ?_ | refine dB ?_ ?_) <;> intro _)
      all_goals rfl
    · have hne : l ≠ [] := by intro e; subst e; simp at hlen; omega
      have hfl : flE l = .any := if_neg hne
      rw [hfl] at h0
      have ca : ¬ (A.length ≤ 0) := by omega
      have e1 : (encE A).take A.length = encE A := encE_take
      have e6 : (encE A).drop A.length = [] := List.drop_eq_nil_of_le (by simp [encE])
      have e2 : (encE (A ++ [(p,q)])).take (A.length + 1) = encE (A ++ [(p,q)]) := List.take_of_length_le (by simp [encE])
      have e3 : encE A ++ [.agg [.int .i64 p,.int .i64 q]] = encE (A ++ [(p,q)]) := encE_app' (p := (p,q))
      have e4 : (encE (A ++ [(p,q)])).length = A.length + 1 := by simp [encE]
      have e5 : (encE (A ++ [(p,q)])).drop (A.length + 1) = [] := List.drop_eq_nil_of_le (by simp [encE])
      rw [hi]
      repeat' first | ((with_reducible first | refine cS ?_ ?_ | refine oS ?_ ?_ | refine dS ?_ ?_) <;> intro _) | ((with_reducible refine kk ?_ ?_); · rfl) | (simp -implicitDefEqProofs (disch := first | omega | assumption) only [push_cast,simprocAttr,eqTop,eqShL,eqSh,K_seq,h0,h3,h5,encE_len,encE_hsz,hlen,hT,hD,ca,e1,e2,e3,e4,e5,e6,encE_nil,headSz_nil,List.length_nil,Int.toNat_natCast,boundsE,bound,Option.isSome_none,Bool.false_and,Bool.false_eq_true,if_false,List.drop_zero,endP_ret,snap_sl4,List.append_nil,Nat.le_refl]) | ((with_reducible first | refine cB ?_ ?_ | refine oB ?_ ?_ | refine dB ?_ ?_) <;> intro _)
  | cons x r =>
    have hl0 := hB x r rfl
    have hne : l ≠ [] := by intro e; subst e; simp at hlen
    have hfl : flE l = .any := if_neg hne
    rw [hfl] at h0
    simp only [List.length_cons] at hlen
    have hg := encE_at hlAB
    by_cases hx : x = (p,q)
    · have hi : insF l (p,q) = l := by rw [hins,insF,hl0,if_neg (by simp),if_pos hx, ← hlAB]
      rw [hi]
      subst hx
      repeat' first | ((with_reducible first | refine cS ?_ ?_ | refine oS ?_ ?_ | refine dS ?_ ?_) <;> intro _) | ((with_reducible refine kk ?_ ?_); · rfl) | (simp -implicitDefEqProofs (disch := first | omega | assumption) only [push_cast,simprocAttr,eqTop,eqShL,eqSh,K_seq,h0,h3,h5,encE_len,hlen,Int.toNat_natCast,hg,endP_ret,snap_vs4]) | ((with_reducible first | refine cB ?_ ?_ | refine oB ?_ ?_ | refine dB ?_ ?_) <;> intro _)
    · have hi : insF l (p,q) = A ++ ((p,q) :: x :: r) := by rw [hins,insF,hl0,if_neg (by simp),if_neg hx]
      rw [hi]
      have hk : x.1 = p → x.2 = q → False := fun h1 h2 => hx (Prod.ext h1 h2)
      have hB0 : (encE (x :: r)).length = r.length + 1 := by simp [encE]
      have hTl : (encE l).take (A.length + (r.length + 1)) = encE l := List.take_of_length_le (by simp [encE]; omega)
      have cb : ¬ (A.length + 1 + (r.length + 1) ≤ A.length + 1) := by omega
      have e2 : (encE (A ++ [(p,q)])).take (A.length + 1) = encE (A ++ [(p,q)]) := List.take_of_length_le (by simp [encE])
      have e3 : encE A ++ [.agg [.int .i64 p,.int .i64 q]] = encE (A ++ [(p,q)]) := encE_app' (p := (p,q))
      have e4 : (encE (A ++ [(p,q)])).length = A.length + 1 := by simp [encE]
      have e7 : encE (A ++ [(p,q)]) ++ encE (x :: r) = encE (A ++ ((p,q) :: x :: r)) := by rw [encE_apps]; simp
      have e8 : (encE (A ++ ((p,q) :: x :: r))).take (A.length + 1 + (r.length + 1)) = encE (A ++ ((p,q) :: x :: r)) := List.take_of_length_le (by simp [encE]; omega)
      have e9 : (encE (A ++ ((p,q) :: x :: r))).length = A.length + 1 + (r.length + 1) := by simp [encE]; omega
      rcases Nat.eq_zero_or_pos A.length with a0 | a0
      · have := List.eq_nil_of_length_eq_zero a0
        subst this
        simp only [List.length_nil,Nat.zero_add,List.nil_append] at *
        by_cases h1 : x.1 = p
        · have h2 : ¬ x.2 = q := fun h2 => hk h1 h2
          repeat' first | ((with_reducible first | refine cS ?_ ?_ | refine oS ?_ ?_ | refine dS ?_ ?_) <;> intro _) | ((with_reducible refine kk ?_ ?_); · rfl) | (simp -implicitDefEqProofs (disch := first | omega | assumption) only [push_cast,simprocAttr,eqTop,eqShL,eqSh,K_seq,h0,h3,h5,encE_len,encE_hsz,hlen,hg,hB0,hTl,hT,hD,cb,e2,e3,e4,e7,e8,e9,encE_nil,headSz_nil,List.length_nil,Int.toNat_natCast,boundsE,bound,Option.isSome_none,Bool.false_and,Bool.false_eq_true,if_false,List.drop_zero,endP_ret,snap_sl4,List.append_nil,Nat.le_refl,h1,h2]) | ((with_reducible first | refine cB ?_ ?_ | refine oB ?_ ?_ | refine dB ?_ ?_) <;> intro _)
          exact congrArg (PV.vs Fl.any) e8
        · repeat' first | ((with_reducible first | refine cS ?_ ?_ | refine oS ?_ ?_ | refine dS ?_ ?_) <;> intro _) | ((with_reducible refine kk ?_ ?_); · rfl) | (simp -implicitDefEqProofs (disch := first | omega | assumption) only [push_cast,simprocAttr,eqTop,eqShL,eqSh,K_seq,h0,h3,h5,encE_len,encE_hsz,hlen,hg,hB0,hTl,hT,hD,cb,e2,e3,e4,e7,e8,e9,encE_nil,headSz_nil,List.length_nil,Int.toNat_natCast,boundsE,bound,Option.isSome_none,Bool.false_and,Bool.false_eq_true,if_false,List.drop_zero,endP_ret,snap_sl4,List.append_nil,Nat.le_refl,h1]) | ((with_reducible first | refine cB ?_ ?_ | refine oB ?_ ?_ | refine dB ?_ ?_) <;> intro _)
          exact congrArg (PV.vs Fl.any) e8
      · have ca : ¬ (A.length ≤ 0) := by omega
        have e1 : (encE A).take A.length = encE A := encE_take
        by_cases h1 : x.1 = p
        · have h2 : ¬ x.2 = q := fun h2 => hk h1 h2
          repeat' first | ((with_reducible first | refine cS ?_ ?_ | refine oS ?_ ?_ | refine dS ?_ ?_) <;> intro _) | ((with_reducible refine kk ?_ ?_); · rfl) | (simp -implicitDefEqProofs (disch := first | omega | assumption) only [push_cast,simprocAttr,eqTop,eqShL,eqSh,K_seq,h0,h3,h5,encE_len,encE_hsz,hlen,hg,hB0,hTl,hT,hD,ca,cb,e1,e2,e3,e4,e7,e8,e9,encE_nil,headSz_nil,List.length_nil,Int.toNat_natCast,boundsE,bound,Option.isSome_none,Bool.false_and,Bool.false_eq_true,if_false,List.drop_zero,endP_ret,snap_sl4,List.append_nil,Nat.le_refl,h1,h2]) | ((with_reducible first | refine cB ?_ ?_ | refine oB ?_ ?_ | refine dB ?_ ?_) <;> intro _)
        · repeat' first | ((with_reducible first | refine cS ?_ ?_ | refine oS ?_ ?_ | refine dS ?_ ?_) <;> intro _) | ((with_reducible refine kk ?_ ?_); · rfl) | (simp -implicitDefEqProofs (disch := first | omega | assumption) only [push_cast,simprocAttr,eqTop,eqShL,eqSh,K_seq,h0,h3,h5,encE_len,encE_hsz,hlen,hg,hB0,hTl,hT,hD,ca,cb,e1,e2,e3,e4,e7,e8,e9,encE_nil,headSz_nil,List.length_nil,Int.toNat_natCast,boundsE,bound,Option.isSome_none,Bool.false_and,Bool.false_eq_true,if_false,List.drop_zero,endP_ret,snap_sl4,List.append_nil,Nat.le_refl,h1]) | ((with_reducible first | refine cB ?_ ?_ | refine oB ?_ ?_ | refine dB ?_ ?_) <;> intro _)
end Go.VI.S
