/- Chapter 20: closures over types; constructors. -/
import Derived.Test.YtefikcjiblkmgaaGreatDoorF20m
set_option maxRecDepth 100000
set_option linter.unusedSimpArgs false
set_option linter.unusedVariables false
set_option pp.deepTerms.threshold 4
set_option pp.deepTerms false
namespace Go.VI.S
open Go.VI
theorem tyne_ok (t u : Ty) (h : Heap) : doCall E (callR E) 162 [.agg [.int .i64 u.kind,.str u.name],.ip [.int .i64 t.kind,.str t.name]] h = some (.bool (decide (¬ u = t)),h) := by
  refine call_pure (pf := p162) rfl rfl rfl rfl (by simp [PV.lowL,PV.low]) (by simp [PV.low,PV.lowL]) ?_ h
  show kQ E _ (endQ [⟨3,none⟩] _) .norm { lvl := 0,tmps := mk 7 [(0,.agg [.int .i64 u.kind,.str u.name]),(1,.ip [.int .i64 t.kind,.str t.name])],heap := [[]],defers := [] }
  repeat' first | ((with_reducible first | refine cS ?_ ?_ | refine oS ?_ ?_ | refine dS ?_ ?_) <;> intro _) | ((with_reducible refine kk ?_ ?_); · rfl) | (simp -implicitDefEqProofs (disch := first | omega | assumption) only [push_cast,simprocAttr,K_seq,ty_eq,ty_eta]) | ((with_reducible first | refine cB ?_ ?_ | refine oB ?_ ?_ | refine dB ?_ ?_) <;> intro _)
theorem tyi_loop {f : Fl} (ts : List Ty) (t0 : Ty) (hb : ts.length ≤ 1048576) {ks : List KI} {Q : PEx → Fr → Prop}
    (hr : ∀ t,look t 4 = .int .i64 (idxF (fun u => decide (¬ u = t0)) ts) → kQ E ks Q .ret { lvl := 1,tmps := mk 19 t,heap := [[],[]],defers := [] })
    (hn : ∀ t,idxF (fun u => decide (¬ u = t0)) ts = -1 → kQ E ks Q .norm { lvl := 1,tmps := mk 19 t,heap := [[],[]],defers := [] }) :
    ∀ (rest pre : List Ty)  (t : List (Nat × PV)),ts = pre ++ rest → (idxG (fun u => decide (¬ u = t0)) rest pre.length = idxF (fun u => decide (¬ u = t0)) ts) →
      look t 0 = .vs f (tys ts) → look t 1 = .fn 162 [] [.ip [.int .i64 t0.kind,.str t0.name]] → look t 7 = .int .i64 ts.length → look t 8 = .int .i64 pre.length →
      kQ E (.code p180l0 :: .blk 0 :: ks) Q .norm { lvl := 1,tmps := mk 19 t,heap := [[],[]],defers := [] } := by
  intro rest
  induction rest with
  | nil =>
    intro pre  t hl hi0 h0 h1 h7 h8
    have e : ts.length = pre.length := by rw [hl]; simp
    refine loopK' (c := p180l0) rfl ?_
    repeat' first | ((with_reducible first | refine cS ?_ ?_ | refine oS ?_ ?_ | refine dS ?_ ?_) <;> intro _) | ((with_reducible refine kk ?_ ?_); · rfl) | (simp -implicitDefEqProofs (disch := first | omega | assumption) only [push_cast,simprocAttr,eqTop,eqShL,eqSh,K_seq,h0,h1,h7,h8,e,tys_len,tyne_ok]) | ((with_reducible first | refine cB ?_ ?_ | refine oB ?_ ?_ | refine dB ?_ ?_) <;> intro _)
    exact hn _ hi0.symm
  | cons s r ih =>
    intro pre  t hl hi0 h0 h1 h7 h8
    have e : ts.length = pre.length + r.length + 1 := by rw [hl]; simp; omega
    have hg : (tys ts)[pre.length]? = some (.agg [.int .i64 s.kind,.str s.name]) := by rw [hl]; exact get_at _ _ _ _
    refine loopK' (c := p180l0) rfl ?_
    repeat' first | ((with_reducible first | refine cS ?_ ?_ | refine oS ?_ ?_ | refine dS ?_ ?_) <;> intro _) | ((with_reducible refine kk ?_ ?_); · rfl) | (simp -implicitDefEqProofs (disch := first | omega | assumption) only [push_cast,simprocAttr,eqTop,eqShL,eqSh,K_seq,h0,h1,h7,h8,hg,tys_len,tyne_ok]) | ((with_reducible first | refine cB ?_ ?_ | refine oB ?_ ?_ | refine dB ?_ ?_) <;> intro _)
    · rename_i hp
      refine hr _ ?_
      simp only [look,if_pos, ↓reduceIte,Nat.reduceEqDiff]
      rw [← hi0]
      simp [idxG] at hp ⊢
      simp [hp]
    · rename_i hp
      refine ih (pre ++ [s])  _ (by simp [hl]) (by rw [← hi0]; simp [idxG] at hp ⊢; simp [hp]) (by simp [look,look_keepL,h0]) (by simp [look,look_keepL,h1]) (by simp [look,look_keepL,h7]) (by simp [look,look_keepL,h8])
theorem tyi_ok (f : Fl) (ts : List Ty) (t0 : Ty) (hb : ts.length ≤ 1048576) : doCall E (callR E) 180 [.vs f (tys ts),.fn 162 [] [.ip [.int .i64 t0.kind,.str t0.name]]] [[]] = some (.int .i64 (idxF (fun u => decide (¬ u = t0)) ts),[[]]) := by
  refine call_imp (pf := p180) rfl rfl rfl rfl rfl rfl ?_
  show kQ E _ (endM [⟨4,none⟩] _ 1 _) .norm { lvl := 1,tmps := mk 19 [(0,.vs f (tys ts)),(1,.fn 162 [] [.ip [.int .i64 t0.kind,.str t0.name]])],heap := [[],[]],defers := [] }
  repeat' first | ((with_reducible first | refine cS ?_ ?_ | refine oS ?_ ?_ | refine dS ?_ ?_) <;> intro _) | ((with_reducible refine kk ?_ ?_); · rfl) | (simp -implicitDefEqProofs (disch := first | omega | assumption) only [push_cast,simprocAttr,eqTop,eqShL,eqSh,K_seq,tys_len]) | ((with_reducible first | refine cB ?_ ?_ | refine oB ?_ ?_ | refine dB ?_ ?_) <;> intro _)
  refine tyi_loop (f := f) ts t0 hb ?_ ?_ ts [] _ rfl rfl (by simp [look,look_keepL]) (by simp [look,look_keepL]) (by simp [look,look_keepL]) (by simp [look,look_keepL])
  all_goals
    intro t h4
    repeat' first | ((with_reducible first | refine cS ?_ ?_ | refine oS ?_ ?_ | refine dS ?_ ?_) <;> intro _) | ((with_reducible refine kk ?_ ?_); · rfl) | (simp -implicitDefEqProofs (disch := first | omega | assumption) only [push_cast,simprocAttr,eqTop,eqShL,eqSh,K_seq,h4,endM_ret,endM_norm,allMarks,heapLow,List.all_cons,List.all_nil]) | ((with_reducible first | refine cB ?_ ?_ | refine oB ?_ ?_ | refine dB ?_ ?_) <;> intro _)
def allSame (ts : List Ty) (t : Ty) : Bool := ts.all fun u => decide (u = t)
theorem allSame_idx (t : Ty) : ∀ (ts : List Ty) (i : Int),0 ≤ i → decide (idxG (fun u => decide (¬ u = t)) ts i ≥ 0) = !allSame ts t
  | [],i,h => by simp [idxG,allSame]
  | u :: r,i,h => by
    have ih := allSame_idx t r (i + 1) (by omega)
    by_cases hu : u = t
    · simp [idxG,allSame,hu] at ih ⊢; exact ih
    · simp [idxG,allSame,hu,h]
theorem allSame_idxF (t : Ty) (ts : List Ty) : decide (idxF (fun u => decide (¬ u = t)) ts ≥ 0) = !allSame ts t := allSame_idx t ts 0 (by omega)
theorem has_ok (f : Fl) (ts : List Ty) (t0 : Ty) (hb : ts.length ≤ 1048576) (h : Heap) : doCall E (callR E) 161 [.vs f (tys ts),.fn 162 [] [.ip [.int .i64 t0.kind,.str t0.name]]] h = some (.bool (!allSame ts t0),h) := by
  have e := allSame_idxF t0 ts
  refine call_pure (pf := p161) rfl rfl rfl rfl (by simp [PV.lowL,PV.low]) (by simp [PV.low,PV.lowL]) ?_ h
  show kQ E _ (endQ [⟨4,none⟩] _) .norm { lvl := 0,tmps := mk 9 [(0,.vs f (tys ts)),(1,.fn 162 [] [.ip [.int .i64 t0.kind,.str t0.name]])],heap := [[]],defers := [] }
  repeat' first | ((with_reducible first | refine cS ?_ ?_ | refine oS ?_ ?_ | refine dS ?_ ?_) <;> intro _) | ((with_reducible refine kk ?_ ?_); · rfl) | (simp -implicitDefEqProofs (disch := first | omega | assumption) only [push_cast,simprocAttr,eqTop,eqShL,eqSh,K_seq,tyi_ok,hb]) | ((with_reducible first | refine cB ?_ ?_ | refine oB ?_ ?_ | refine dB ?_ ?_) <;> intro _)
  exact congrArg PV.bool e
theorem equal_ok (f : Fl) (ts : List Ty) (t0 : Ty) (hb : ts.length ≤ 1048576) (h : Heap) : doCall E (callR E) 160 [.vs f (tys ts),.ip [.int .i64 t0.kind,.str t0.name]] h = some (.bool (allSame ts t0),h) := by
  refine call_pure (pf := p160) rfl rfl rfl rfl (by simp [PV.lowL,PV.low]) (by simp [PV.low,PV.lowL]) ?_ h
  show kQ E _ (endQ [⟨3,none⟩] _) .norm { lvl := 0,tmps := mk 8 [(0,.vs f (tys ts)),(1,.ip [.int .i64 t0.kind,.str t0.name])],heap := [[]],defers := [] }
  repeat' first | ((with_reducible first | refine cS ?_ ?_ | refine oS ?_ ?_ | refine dS ?_ ?_) <;> intro _) | ((with_reducible refine kk ?_ ?_); · rfl) | (simp -implicitDefEqProofs (disch := first | omega | assumption) only [push_cast,simprocAttr,eqTop,eqShL,eqSh,K_seq,has_ok,hb]) | ((with_reducible first | refine cB ?_ ?_ | refine oB ?_ ?_ | refine dB ?_ ?_) <;> intro _)
  simp
theorem tys1 {a : Ty} : tys [a] = [.agg [.int .i64 a.kind,.str a.name]] := rfl
def conN (m : Mod) : List Ty → Int → Int
  | [],n => n
  | t :: r,n => conN m r (if n + compF m t.kind t.name < 1000 then n + compF m t.kind t.name else 1000)
def conBad (ts : List Ty) : Bool := ts.any fun t => !decide (t = ⟨1,[]⟩) && !isVc t.kind
def conOk (k j : Int) : Bool := if k = 1 then decide (j = 3 ∨ j = 2 ∨ j = 4) else if k = 2 then decide (j = 1) else if k = 3 then decide (j = 1 ∨ j = 4) else decide (j = 3)
def constructF (m : Mod) (k : Int) (ts : List Ty) : Ty × Int :=
  if isVc k then (if conN m ts 0 ≠ plainF k then (tz,11) else if conBad ts then (tz,12) else (⟨k,[]⟩,0))
  else match ts with
    | [t] => typedF (conOk k t.kind) ⟨k,[]⟩
    | _ => (tz,11)
theorem con_loop (m : Mod) (hm : m.Ok) {f : Fl} (ts : List Ty) (hb : ts.length ≤ 1048576) (k fin : Int) {o2 o3 : Option Ob} {ks : List KI} {Q : PEx → Fr → Prop}
    (hn : ∀ t o1,look t 1 = .int .i64 k → look t 2 = .vs f (tys ts) → look t 6 = .ptr (0,0) 1 0 0 → look t 8 = .int .i64 fin → kQ E ks Q .norm { lvl := 0,tmps := mk 77 t,heap := [[cell0,o1,o2,o3]],defers := [] }) :
    ∀ (rest pre : List Ty) (n : Int) (o1 : Option Ob) (t : List (Nat × PV)),ts = pre ++ rest → (conN m rest n = fin) → (0 ≤ n) → (n ≤ 1000) →
      look t 1 = .int .i64 k → look t 2 = .vs f (tys ts) → look t 3 = .ip m.c → look t 6 = .ptr (0,0) 1 0 0 → look t 8 = .int .i64 n → look t 17 = .vs f (tys ts) → look t 18 = .int .i64 ts.length → look t 19 = .int .i64 pre.length →
      kQ E (.code p128l0 :: .blk 0 :: ks) Q .norm { lvl := 0,tmps := mk 77 t,heap := [[cell0,o1,o2,o3]],defers := [] } := by
  intro rest
  have h1' := m.hm
  induction rest with
  | nil =>
    intro pre n o1 t hl hi0 hi1 hi2 h1 h2 h3 h6 h8 h17 h18 h19
    have e : ts.length = pre.length := by rw [hl]; simp
    refine loopK' (c := p128l0) rfl ?_
    repeat' first | ((with_reducible first | refine cS ?_ ?_ | refine oS ?_ ?_ | refine dS ?_ ?_) <;> intro _) | ((with_reducible refine kk ?_ ?_); · rfl) | (simp -implicitDefEqProofs (disch := first | omega | assumption) only [push_cast,simprocAttr,eqTop,eqShL,eqSh,K_seq,h1,h2,h3,h6,h8,h17,h18,h19,e,tys_len,comp_ok,hm,h1']) | ((with_reducible first | refine cB ?_ ?_ | refine oB ?_ ?_ | refine dB ?_ ?_) <;> intro _)
    simp only [conN] at hi0
    subst hi0
    exact hn _ _ (by simp [look,look_keepL,h1]) (by simp [look,look_keepL,h2]) (by simp [look,look_keepL,h6]) (by simp [look,look_keepL,h8])
  | cons s r ih =>
    intro pre n o1 t hl hi0 hi1 hi2 h1 h2 h3 h6 h8 h17 h18 h19
    have e : ts.length = pre.length + r.length + 1 := by rw [hl]; simp; omega
    have hg : (tys ts)[pre.length]? = some (.agg [.int .i64 s.kind,.str s.name]) := by rw [hl]; exact get_at _ _ _ _
    have hc := compF_bd m s.kind s.name
    refine loopK' (c := p128l0) rfl ?_
    repeat' first | ((with_reducible first | refine cS ?_ ?_ | refine oS ?_ ?_ | refine dS ?_ ?_) <;> intro _) | ((with_reducible refine kk ?_ ?_); · rfl) | (simp -implicitDefEqProofs (disch := first | omega | assumption) only [push_cast,simprocAttr,eqTop,eqShL,eqSh,K_seq,h1,h2,h3,h6,h8,h17,h18,h19,hg,tys_len,comp_ok,hm,h1']) | ((with_reducible first | refine cB ?_ ?_ | refine oB ?_ ?_ | refine dB ?_ ?_) <;> intro _)
    refine ih (pre ++ [s]) (if n + compF m s.kind s.name < 1000 then n + compF m s.kind s.name else 1000) _ _ (by simp [hl]) (by rw [← hi0]; rfl) (by split <;> omega) (by split <;> omega) (by simp [look,look_keepL,h1]) (by simp [look,look_keepL,h2]) (by simp [look,look_keepL,h3]) (by simp [look,look_keepL,h6]) (by simp [look,look_keepL,h8]) (by simp [look,look_keepL,h17]) (by simp [look,look_keepL,h18]) (by simp [look,look_keepL,h19])
theorem cob_loop {f : Fl} (ts : List Ty) (hb : ts.length ≤ 1048576) (k : Int) {o1 o3 : Option Ob} {ks : List KI} {Q : PEx → Fr → Prop}
    (hr : ∀ t o2,conBad ts = true → look t 6 = .ptr (0,0) 1 0 0 → look t 7 = .int .i64 12 → kQ E ks Q .ret { lvl := 0,tmps := mk 77 t,heap := [[cell0,o1,o2,o3]],defers := [] })
    (hn : ∀ t o2,conBad ts = false → look t 1 = .int .i64 k → look t 6 = .ptr (0,0) 1 0 0 → kQ E ks Q .norm { lvl := 0,tmps := mk 77 t,heap := [[cell0,o1,o2,o3]],defers := [] }) :
    ∀ (rest pre : List Ty) (o2 : Option Ob) (t : List (Nat × PV)),ts = pre ++ rest → (conBad rest = conBad ts) →
      look t 1 = .int .i64 k → look t 6 = .ptr (0,0) 1 0 0 → look t 36 = .vs f (tys ts) → look t 37 = .int .i64 ts.length → look t 38 = .int .i64 pre.length →
      kQ E (.code p128l1 :: .blk 2 :: ks) Q .norm { lvl := 0,tmps := mk 77 t,heap := [[cell0,o1,o2,o3]],defers := [] } := by
  intro rest
  have pu84 : pureB E 84 = true := rfl
  have pu28 : pureB E 28 = true := rfl
  induction rest with
  | nil =>
    intro pre o2 t hl hi0 h1 h6 h36 h37 h38
    have e : ts.length = pre.length := by rw [hl]; simp
    refine loopK' (c := p128l1) rfl ?_
    repeat' first | ((with_reducible first | refine cS ?_ ?_ | refine oS ?_ ?_ | refine dS ?_ ?_) <;> intro _) | ((with_reducible refine kk ?_ ?_); · rfl) | (simp -implicitDefEqProofs (disch := first | omega | assumption) only [push_cast,simprocAttr,K_seq,h1,h6,h36,h37,h38,e,tys_len,ty_eq,ty_eta,kind_ok,vc_ok]) | ((with_reducible first | refine cB ?_ ?_ | refine oB ?_ ?_ | refine dB ?_ ?_) <;> intro _)
    exact hn _ _ hi0.symm (by simp [look,look_keepL,h1]) (by simp [look,look_keepL,h6])
  | cons s r ih =>
    intro pre o2 t hl hi0 h1 h6 h36 h37 h38
    have e : ts.length = pre.length + r.length + 1 := by rw [hl]; simp; omega
    have hg : (tys ts)[pre.length]? = some (.agg [.int .i64 s.kind,.str s.name]) := by rw [hl]; exact get_at _ _ _ _
    refine loopK' (c := p128l1) rfl ?_
    repeat' first | ((with_reducible first | refine cS ?_ ?_ | refine oS ?_ ?_ | refine dS ?_ ?_) <;> intro _) | ((with_reducible refine kk ?_ ?_); · rfl) | (simp -implicitDefEqProofs (disch := first | omega | assumption) only [push_cast,simprocAttr,K_seq,h1,h6,h36,h37,h38,hg,tys_len,ty_eq,ty_eta,kind_ok,vc_ok]) | ((with_reducible first | refine cB ?_ ?_ | refine oB ?_ ?_ | refine dB ?_ ?_) <;> intro _)
    · rename_i h1' h2'
      exact hr _ _ (by rw [← hi0]; simp [conBad,h1'] at h2' ⊢; simp [h2']) (by simp [look,look_keepL,h6]) (by simp [look])
    · rename_i h1' h2'
      refine ih (pre ++ [s]) _ _ (by simp [hl]) (by rw [← hi0]; simp [conBad,h1'] at h2' ⊢; simp [h2']) (by simp [look,look_keepL,h1]) (by simp [look,look_keepL,h6]) (by simp [look,look_keepL,h36]) (by simp [look,look_keepL,h37]) (by simp [look,look_keepL,h38])
    · rename_i h1'
      refine ih (pre ++ [s]) _ _ (by simp [hl]) (by rw [← hi0]; simp [conBad,h1']) (by simp [look,look_keepL,h1]) (by simp [look,look_keepL,h6]) (by simp [look,look_keepL,h36]) (by simp [look,look_keepL,h37]) (by simp [look,look_keepL,h38])
theorem isVc_bd {k : Int} (h : isVc k = true) : 5 ≤ k ∧ k ≤ 7 := by simpa [isVc] using h
set_option maxHeartbeats 2000000 in
theorem construct_ok (m : Mod) (hm : m.Ok) (k : Int) (hk : 1 ≤ k ∧ k ≤ 7) (f : Fl) (ts : List Ty) (hb : ts.length ≤ 1048576) (h : Heap) : doCall E (callR E) 128 [.agg m.c,.int .i64 k,.vs f (tys ts)] h = some (encR (constructF m k ts),h) := by
  have h1 := m.hm
  refine call_pure (pf := p128) rfl rfl rfl rfl (by simp [PV.lowL,PV.low,strs_low,flds_low,scts_low,funs_low,h1,tys_low]) (by simp [PV.low,PV.lowL,strs_low,flds_low,scts_low,funs_low,h1,tys_low]) ?_ h
  show kQ E _ (endQ [⟨6,some (some 2)⟩,⟨7,none⟩] _) .norm { lvl := 0,tmps := mk 77 [(0,.agg m.c),(1,.int .i64 k),(2,.vs f (tys ts))],heap := [[none,none,none,none]],defers := [] }
  have pu84 : pureB E 84 = true := rfl
  have pu156 : pureB E 156 = true := rfl
  have pu125 : pureB E 125 = true := rfl
  by_cases hv : isVc k = true
  · repeat' first | ((with_reducible first | refine cS ?_ ?_ | refine oS ?_ ?_ | refine dS ?_ ?_) <;> intro _) | ((with_reducible refine kk ?_ ?_); · rfl) | (simp -implicitDefEqProofs (disch := first | omega | assumption) only [push_cast,simprocAttr,eqTop,eqShL,eqSh,K_seq,kind_ok,vc_ok,hv,tys_len]) | ((with_reducible first | refine cB ?_ ?_ | refine oB ?_ ?_ | refine dB ?_ ?_) <;> intro _)
    refine con_loop m hm (f := f) ts hb k (conN m ts 0) ?_ ts [] 0 _ _ rfl rfl (by omega) (by omega) (by simp [look,look_keepL]) (by simp [look,look_keepL]) (by simp [look,look_keepL]) (by simp [look,look_keepL]) (by simp [look,look_keepL]) (by simp [look,look_keepL]) (by simp [look,look_keepL]) (by simp [look,look_keepL])
    intro t o1 k1 k2 k6 k8
    by_cases hc : conN m ts 0 = plainF k
    · repeat' first | ((with_reducible first | refine cS ?_ ?_ | refine oS ?_ ?_ | refine dS ?_ ?_) <;> intro _) | ((with_reducible refine kk ?_ ?_); · rfl) | (simp -implicitDefEqProofs (disch := first | omega | assumption) only [push_cast,simprocAttr,eqTop,eqShL,eqSh,K_seq,k1,k2,k6,k8,kind_ok,plain_ok,hc,tys_len]) | ((with_reducible first | refine cB ?_ ?_ | refine oB ?_ ?_ | refine dB ?_ ?_) <;> intro _)
      refine cob_loop (f := f) ts hb k ?_ ?_ ts [] _ _ rfl rfl (by simp [look,look_keepL,k1]) (by simp [look,look_keepL,k6]) (by simp [look,look_keepL,k2]) (by simp [look,look_keepL]) (by simp [look,look_keepL])
      · intro t o2 hbad q6 q7
        repeat' first | ((with_reducible first | refine cS ?_ ?_ | refine oS ?_ ?_ | refine dS ?_ ?_) <;> intro _) | ((with_reducible refine kk ?_ ?_); · rfl) | (simp -implicitDefEqProofs (disch := first | omega | assumption) only [push_cast,simprocAttr,eqTop,eqShL,eqSh,K_seq,q6,q7]) | ((with_reducible first | refine cB ?_ ?_ | refine oB ?_ ?_ | refine dB ?_ ?_) <;> intro _)
        simp [constructF,hv,hc,hbad]
      · intro t o2 hbad q1 q6
        repeat' first | ((with_reducible first | refine cS ?_ ?_ | refine oS ?_ ?_ | refine dS ?_ ?_) <;> intro _) | ((with_reducible refine kk ?_ ?_); · rfl) | (simp -implicitDefEqProofs (disch := first | omega | assumption) only [push_cast,simprocAttr,eqTop,eqShL,eqSh,K_seq,q1,q6,kind_ok]) | ((with_reducible first | refine cB ?_ ?_ | refine oB ?_ ?_ | refine dB ?_ ?_) <;> intro _)
        simp [constructF,hv,hc,hbad]
    · repeat' first | ((with_reducible first | refine cS ?_ ?_ | refine oS ?_ ?_ | refine dS ?_ ?_) <;> intro _) | ((with_reducible refine kk ?_ ?_); · rfl) | (simp -implicitDefEqProofs (disch := first | omega | assumption) only [push_cast,simprocAttr,eqTop,eqShL,eqSh,K_seq,k1,k2,k6,k8,kind_ok,plain_ok,hc,tys_len]) | ((with_reducible first | refine cB ?_ ?_ | refine oB ?_ ?_ | refine dB ?_ ?_) <;> intro _)
      simp [constructF,hv,hc]
  · have hv' : isVc k = false := by simpa using hv
    have hk4 : k = 1 ∨ k = 2 ∨ k = 3 ∨ k = 4 := by simp [isVc] at hv; omega
    match ts,hb with
    | [],hb =>
      repeat' first | ((with_reducible first | refine cS ?_ ?_ | refine oS ?_ ?_ | refine dS ?_ ?_) <;> intro _) | ((with_reducible refine kk ?_ ?_); · rfl) | (simp -implicitDefEqProofs (disch := first | omega | assumption) only [push_cast,simprocAttr,eqTop,eqShL,eqSh,K_seq,kind_ok,vc_ok,hv',tys_len]) | ((with_reducible first | refine cB ?_ ?_ | refine oB ?_ ?_ | refine dB ?_ ?_) <;> intro _)
      simp [constructF,hv']
    | [a],hb =>
      rcases hk4 with hk | hk | hk | hk
      all_goals subst hk
      all_goals
        repeat' first | ((with_reducible first | refine cS ?_ ?_ | refine oS ?_ ?_ | refine dS ?_ ?_) <;> intro _) | ((with_reducible refine kk ?_ ?_); · rfl) | (simp -implicitDefEqProofs (disch := first | omega | assumption) only [push_cast,simprocAttr,eqTop,eqShL,eqSh,K_seq,kind_ok,vc_ok,hv',tys1,findE,setE,keySame,keyIs,Option.isSome_some,Option.isSome_none,Option.getD_some,Option.getD_none,khas3_ok,khas2_ok,khas1_ok,typed_okc]) | ((with_reducible first | refine cB ?_ ?_ | refine oB ?_ ?_ | refine dB ?_ ?_) <;> intro _)
      all_goals simp [constructF,hv',conOk]
      all_goals trace_state
    | a :: b :: r,hb =>
      have hl : (tys (a :: b :: r)).length ≠ 1 := by simp [tys]
      repeat' first | ((with_reducible first | refine cS ?_ ?_ | refine oS ?_ ?_ | refine dS ?_ ?_) <;> intro _) | ((with_reducible refine kk ?_ ?_); · rfl) | (simp -implicitDefEqProofs (disch := first | omega | assumption) only [push_cast,simprocAttr,eqTop,eqShL,eqSh,K_seq,kind_ok,vc_ok,hv',hl,tys_len]) | ((with_reducible first | refine cB ?_ ?_ | refine oB ?_ ?_ | refine dB ?_ ?_) <;> intro _)
      all_goals simp [constructF,hv']
end Go.VI.S
