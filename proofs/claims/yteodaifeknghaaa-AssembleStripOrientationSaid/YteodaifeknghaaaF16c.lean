/- Chapter 16: runs. -/
import Derived.Test.YteodaifeknghaaaF16a
set_option maxRecDepth 100000
set_option linter.unusedSimpArgs false
set_option pp.deepTerms.threshold 40
set_option pp.deepTerms false
namespace Go.VI.S
open Go.VI
def encR (r : List Int) : PV := .vs .any (ints r)
def encRs (l : List (List Int)) : List PV := l.map encR
theorem encRs_len {l : List (List Int)} : (encRs l).length = l.length := by simp [encRs]
theorem ints_take {r : List Int} : (ints r).take r.length = ints r := List.take_of_length_le (by simp [ints])
theorem ints_take1 {r : List Int} {z : Int} : (ints (r ++ [z])).take (r.length + 1) = ints (r ++ [z]) := List.take_of_length_le (by simp [ints])
theorem ints_app {r : List Int} {z : Int} : ints r ++ [.int .i64 z] = ints (r ++ [z]) := by simp [ints]
theorem encRs_take {l : List (List Int)} : (encRs l).take l.length = encRs l := List.take_of_length_le (by simp [encRs])
theorem encRs_app {l : List (List Int)} {r : List Int} : encRs l ++ [.vs .any (ints r)] = encRs (l ++ [r]) := by simp [encRs,encR]
def runsG : List Int → List Int → List (List Int) → List (List Int)
  | [],run,out => if run = [] then out else out ++ [run]
  | z :: r,run,out => if 0 ≤ z then runsG r (run ++ [z]) out else if run = [] then runsG r [] out else runsG r [] (out ++ [run])
def runsF (zs : List Int) : List (List Int) := runsG zs [] []
theorem runs_bound : ∀ (zs run : List Int) (out : List (List Int)),(runsG zs run out).length + (if run = [] then 0 else 1) ≤ out.length + zs.length + (if run = [] then 0 else 1) + (if run = [] then 0 else 1)
  | [],run,out => by
    unfold runsG
    split <;> simp_all
  | z :: r,run,out => by
    unfold runsG
    split
    · have := runs_bound r (run ++ [z]) out
      simp at this ⊢
      split <;> omega
    · split
      · have := runs_bound r [] out
        simp_all
        omega
      · have := runs_bound r [] (out ++ [run])
        simp_all
        omega
theorem ref_runs_loop {f : Fl} {zs : List Int} (hz : zs.length ≤ 1048576) {ks : List KI} {Q : PEx → Fr → Prop} {fin : List (List Int)}
    (hpost : ∀ l g1 ob,look l 3 = .sl (0,0) g1 0 fin.length → kQ E ks Q .norm { lvl := 0,tmps := mk 38 l,heap := [[some (.mem (encRs fin) g1 true 1),ob,none,none]],defers := [] }) :
    ∀ (rest pre run : List Int) (out : List (List Int)) (g1 g2 : Nat) (l : List (Nat × PV)),zs = pre ++ rest → runsG rest run out = fin → run.length ≤ pre.length → out.length ≤ pre.length →
      look l 0 = .vs f (ints zs) → look l 5 = .int .i64 pre.length → look l 3 = .sl (0,0) g1 0 out.length → look l 4 = .sl (0,1) g2 0 run.length →
      kQ E (.code p22l0 :: .blk 0 :: ks) Q .norm { lvl := 0,tmps := mk 38 l,heap := [[some (.mem (encRs out) g1 true 1),some (.mem (ints run) g2 true 1),none,none]],defers := [] } := by
  intro rest
  induction rest with
  | nil =>
    intro pre run out g1 g2 l hpre hfin hr ho h0 h5 h3 h4
    have hlen : zs.length = pre.length := by rw [hpre]; simp
    refine loopK' (c := p22l0) rfl ?_
    repeat' first | ((with_reducible first | refine cS ?_ ?_ | refine oS ?_ ?_ | refine dS ?_ ?_) <;> intro _) | ((with_reducible refine kk ?_ ?_); · rfl) | (simp -implicitDefEqProofs (disch := first | omega | assumption) only [push_cast,simprocAttr,eqTop,eqShL,eqSh,K_seq,h0,h5,h3,h4,encRs_len,ints_len,ints_take,encRs_take,encRs_app]) | ((with_reducible first | refine cB ?_ ?_ | refine oB ?_ ?_ | refine dB ?_ ?_) <;> intro _)
    all_goals
      refine loopK' (c := p22l0) rfl ?_
      repeat' first | ((with_reducible first | refine cS ?_ ?_ | refine oS ?_ ?_ | refine dS ?_ ?_) <;> intro _) | ((with_reducible refine kk ?_ ?_); · rfl) | (simp -implicitDefEqProofs (disch := first | omega | assumption) only [push_cast,simprocAttr,eqTop,eqShL,eqSh,K_seq,h0,h5,h3,h4,ints_len]) | ((with_reducible first | refine cB ?_ ?_ | refine oB ?_ ?_ | refine dB ?_ ?_) <;> intro _)
    · have e : run ≠ [] := fun e => by subst e; simp at *
      have e2 : fin = out ++ [run] := by rw [← hfin]; simp [runsG,e]
      subst e2
      exact hpost _ _ _ (by simp [look,look_keepL])
    · have e : run = [] := List.eq_nil_of_length_eq_zero (by omega)
      have e2 : fin = out := by rw [← hfin]; simp [runsG,e]
      subst e2
      exact hpost _ _ _ (by simp [look,look_keepL,h3])
  | cons z r ih =>
    intro pre run out g1 g2 l hpre hfin hr ho h0 h5 h3 h4
    have hlen : zs.length = pre.length + r.length + 1 := by rw [hpre]; simp; omega
    have hget : at' zs pre.length = z := by rw [hpre]; simp [at']
    refine loopK' (c := p22l0) rfl ?_
    repeat' first | ((with_reducible first | refine cS ?_ ?_ | refine oS ?_ ?_ | refine dS ?_ ?_) <;> intro _) | ((with_reducible refine kk ?_ ?_); · rfl) | (simp -implicitDefEqProofs (disch := first | omega | assumption) only [push_cast,simprocAttr,eqTop,eqShL,eqSh,K_seq,h0,h5,h3,h4,encRs_len,ints_len,ints_get,hget,ints_take,ints_app,encRs_take,encRs_app]) | ((with_reducible first | refine cB ?_ ?_ | refine oB ?_ ?_ | refine dB ?_ ?_) <;> intro _)
    · rename_i hz0
      exact ih (pre ++ [z]) (run ++ [z]) out _ _ _ (by simp [hpre]) (by rw [← hfin]; simp [runsG,hz0]) (by simp; omega) (by simp; omega) (by simp [look,look_keepL,h0]) (by simp [look]) (by simp [look,look_keepL,h3]) (by simp [look,look_keepL])
    · rename_i hz0 hr0
      have e : run ≠ [] := fun e => by subst e; simp at hr0
      exact ih (pre ++ [z]) [] (out ++ [run]) _ _ _ (by simp [hpre]) (by rw [← hfin]; simp [runsG,hz0,e]) (by simp) (by simp; omega) (by simp [look,look_keepL,h0]) (by simp [look]) (by simp [look,look_keepL]) (by simp [look,look_keepL])
    · rename_i hz0 hr0
      have e : run = [] := List.eq_nil_of_length_eq_zero (by omega)
      exact ih (pre ++ [z]) [] out _ _ _ (by simp [hpre]) (by rw [← hfin]; simp [runsG,hz0,e]) (by simp) (by simp; omega) (by simp [look,look_keepL,h0]) (by simp [look]) (by simp [look,look_keepL,h3]) (by simp [look,look_keepL])
theorem rruns_ok (f : Fl) (zs : List Int) (hz : zs.length ≤ 1048576) (h : Heap) : doCall E (callR E) 22 [.vs f (ints zs)] h = some (.vs .any (encRs (runsF zs)),h) := by
  refine call_pure (pf := p22) rfl rfl rfl rfl (by simp [PV.lowL,PV.low]) (by simp [PV.low,PV.lowL]) ?_ h
  show kQ E _ (endQ [⟨2,none⟩] _) .norm { lvl := 0,tmps := mk 38 [(0,.vs f (ints zs))],heap := [[none,none,none,none]],defers := [] }
  repeat' first | ((with_reducible first | refine cS ?_ ?_ | refine oS ?_ ?_ | refine dS ?_ ?_) <;> intro _) | ((with_reducible refine kk ?_ ?_); · rfl) | (simp -implicitDefEqProofs (disch := first | omega | assumption) only [push_cast,simprocAttr,eqTop,eqShL,eqSh,K_seq]) | ((with_reducible first | refine cB ?_ ?_ | refine oB ?_ ?_ | refine dB ?_ ?_) <;> intro _)
  refine ref_runs_loop (f := f) (zs := zs) (fin := runsF zs) hz ?_ zs [] [] [] 1 1 _ rfl rfl (by simp) (by simp) (by simp [look]) (by simp [look]) (by simp [look]) (by simp [look])
  intro l g1 ob h3
  repeat' first | ((with_reducible first | refine cS ?_ ?_ | refine oS ?_ ?_ | refine dS ?_ ?_) <;> intro _) | ((with_reducible refine kk ?_ ?_); · rfl) | (simp -implicitDefEqProofs (disch := first | omega | assumption) only [push_cast,simprocAttr,eqTop,eqShL,eqSh,K_seq,h3,encRs_len,encRs_take]) | ((with_reducible first | refine cB ?_ ?_ | refine oB ?_ ?_ | refine dB ?_ ?_) <;> intro _)
theorem runs_loop {f : Fl} {zs : List Int} (hz : zs.length ≤ 1048576) {ks : List KI} {Q : PEx → Fr → Prop} {fin : List (List Int)}
    (hpost : ∀ l g1 ob,look l 3 = .sl (0,0) g1 0 fin.length → kQ E ks Q .norm { lvl := 0,tmps := mk 40 l,heap := [[some (.mem (encRs fin) g1 true 1),ob,none,none]],defers := [] }) :
    ∀ (rest pre run : List Int) (out : List (List Int)) (g1 g2 : Nat) (l : List (Nat × PV)),zs = pre ++ rest → runsG rest run out = fin → run.length ≤ pre.length → out.length ≤ pre.length → (rest = [] → run = []) →
      look l 0 = .vs f (ints zs) → look l 7 = .vs f (ints zs) → look l 8 = .int .i64 zs.length → look l 9 = .int .i64 pre.length → look l 3 = .sl (0,0) g1 0 out.length → look l 4 = .sl (0,1) g2 0 run.length →
      kQ E (.code p21l0 :: .blk 0 :: ks) Q .norm { lvl := 0,tmps := mk 40 l,heap := [[some (.mem (encRs out) g1 true 1),some (.mem (ints run) g2 true 1),none,none]],defers := [] } := by
  intro rest
  induction rest with
  | nil =>
    intro pre run out g1 g2 l hpre hfin hr ho hn h0 h7 h8 h9 h3 h4
    have hlen : zs.length = pre.length := by rw [hpre]; simp
    refine loopK' (c := p21l0) rfl ?_
    repeat' first | ((with_reducible first | refine cS ?_ ?_ | refine oS ?_ ?_ | refine dS ?_ ?_) <;> intro _) | ((with_reducible refine kk ?_ ?_); · rfl) | (simp -implicitDefEqProofs (disch := first | omega | assumption) only [push_cast,simprocAttr,eqTop,eqShL,eqSh,K_seq,h0,h7,h8,h9,h3,h4,encRs_len,ints_len]) | ((with_reducible first | refine cB ?_ ?_ | refine oB ?_ ?_ | refine dB ?_ ?_) <;> intro _)
    have e2 : fin = out := by rw [← hfin,hn rfl]; simp [runsG]
    subst e2
    exact hpost _ _ _ (by simp [look,look_keepL,h3])
  | cons z r ih =>
    intro pre run out g1 g2 l hpre hfin hr ho hn h0 h7 h8 h9 h3 h4
    have hlen : zs.length = pre.length + r.length + 1 := by rw [hpre]; simp; omega
    have hget : at' zs pre.length = z := by rw [hpre]; simp [at']
    refine loopK' (c := p21l0) rfl ?_
    repeat' first | ((with_reducible first | refine cS ?_ ?_ | refine oS ?_ ?_ | refine dS ?_ ?_) <;> intro _) | ((with_reducible refine kk ?_ ?_); · rfl) | (simp -implicitDefEqProofs (disch := first | omega | assumption) only [push_cast,simprocAttr,eqTop,eqShL,eqSh,K_seq,h0,h7,h8,h9,h3,h4,encRs_len,ints_len,ints_get,hget,ints_take,ints_take1,ints_app,encRs_take,encRs_app]) | ((with_reducible first | refine cB ?_ ?_ | refine oB ?_ ?_ | refine dB ?_ ?_) <;> intro _)
    · rename_i hz0 hl
      have e : r = [] := List.eq_nil_of_length_eq_zero (by omega)
      subst e
      exact ih (pre ++ [z]) [] (out ++ [run ++ [z]]) _ _ _ (by simp [hpre]) (by rw [← hfin]; simp [runsG,hz0]) (by simp) (by simp; omega) (fun _ => rfl) (by simp [look,look_keepL,h0]) (by simp [look,look_keepL,h7]) (by simp [look,look_keepL,h8]) (by simp [look]) (by simp [look,look_keepL]) (by simp [look,look_keepL])
    · rename_i hz0 hl
      exact ih (pre ++ [z]) (run ++ [z]) out _ _ _ (by simp [hpre]) (by rw [← hfin]; simp [runsG,hz0]) (by simp; omega) (by simp; omega) (fun e => by subst e; simp at hlen; omega) (by simp [look,look_keepL,h0]) (by simp [look,look_keepL,h7]) (by simp [look,look_keepL,h8]) (by simp [look]) (by simp [look,look_keepL,h3]) (by simp [look,look_keepL])
    · rename_i hz0 hr0
      have e : run ≠ [] := fun e => by subst e; simp at hr0
      exact ih (pre ++ [z]) [] (out ++ [run]) _ _ _ (by simp [hpre]) (by rw [← hfin]; simp [runsG,hz0,e]) (by simp) (by simp; omega) (fun _ => rfl) (by simp [look,look_keepL,h0]) (by simp [look,look_keepL,h7]) (by simp [look,look_keepL,h8]) (by simp [look]) (by simp [look,look_keepL]) (by simp [look,look_keepL])
    · rename_i hz0 hr0
      have e : run = [] := List.eq_nil_of_length_eq_zero (by omega)
      subst e
      exact ih (pre ++ [z]) [] out _ _ _ (by simp [hpre]) (by rw [← hfin]; simp [runsG,hz0]) (by simp) (by simp; omega) (fun _ => rfl) (by simp [look,look_keepL,h0]) (by simp [look,look_keepL,h7]) (by simp [look,look_keepL,h8]) (by simp [look]) (by simp [look,look_keepL,h3]) (by simp [look,look_keepL,h4])
theorem runs_ok (f : Fl) (zs : List Int) (hz : zs.length ≤ 1048576) (h : Heap) : doCall E (callR E) 21 [.vs f (ints zs)] h = some (.vs .any (encRs (runsF zs)),h) := by
  refine call_pure (pf := p21) rfl rfl rfl rfl (by simp [PV.lowL,PV.low]) (by simp [PV.low,PV.lowL]) ?_ h
  show kQ E _ (endQ [⟨2,none⟩] _) .norm { lvl := 0,tmps := mk 40 [(0,.vs f (ints zs))],heap := [[none,none,none,none]],defers := [] }
  repeat' first | ((with_reducible first | refine cS ?_ ?_ | refine oS ?_ ?_ | refine dS ?_ ?_) <;> intro _) | ((with_reducible refine kk ?_ ?_); · rfl) | (simp -implicitDefEqProofs (disch := first | omega | assumption) only [push_cast,simprocAttr,eqTop,eqShL,eqSh,K_seq,ints_len]) | ((with_reducible first | refine cB ?_ ?_ | refine oB ?_ ?_ | refine dB ?_ ?_) <;> intro _)
  refine runs_loop (f := f) (zs := zs) (fin := runsF zs) hz ?_ zs [] [] [] 1 1 _ rfl rfl (by simp) (by simp) (fun _ => rfl) (by simp [look]) (by simp [look]) (by simp [look]) (by simp [look]) (by simp [look]) (by simp [look])
  intro l g1 ob h3
  repeat' first | ((with_reducible first | refine cS ?_ ?_ | refine oS ?_ ?_ | refine dS ?_ ?_) <;> intro _) | ((with_reducible refine kk ?_ ?_); · rfl) | (simp -implicitDefEqProofs (disch := first | omega | assumption) only [push_cast,simprocAttr,eqTop,eqShL,eqSh,K_seq,h3,encRs_len,encRs_take]) | ((with_reducible first | refine cB ?_ ?_ | refine oB ?_ ?_ | refine dB ?_ ?_) <;> intro _)
end Go.VI.S
