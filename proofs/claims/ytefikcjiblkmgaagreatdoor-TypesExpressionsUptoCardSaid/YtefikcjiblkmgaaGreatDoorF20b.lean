/- Chapter 20: the first place with a name. -/
import Derived.Test.YtefikcjiblkmgaaGreatDoorF20a
set_option maxRecDepth 100000
set_option linter.unusedSimpArgs false
set_option linter.unusedVariables false
set_option pp.deepTerms.threshold 4
set_option pp.deepTerms false
namespace Go.VI.S
open Go.VI
theorem idxG_nat {α : Type} (p : α → Bool) : ∀ (l : List α) (i : Int),idxG p l i = -1 ∨ (i ≤ idxG p l i ∧ idxG p l i < i + l.length)
  | [],i => .inl rfl
  | a :: r,i => by
    have := idxG_nat p r (i + 1)
    unfold idxG
    split
    · right; simp; omega
    · rcases this with h | h
      · exact .inl h
      · right; simp; omega
theorem idxF_bd {α : Type} (p : α → Bool) (l : List α) : -1 ≤ idxF p l ∧ idxF p l < l.length ∧ (idxF p l < 0 → idxF p l = -1) := by
  rcases idxG_nat p l 0 with h | h <;> unfold idxF <;> omega
theorem get_at {α : Type} (f : α → PV) (pre : List α) (x : α) (r : List α) : ((pre ++ x :: r).map f)[pre.length]? = some (f x) := by simp
theorem ixs_loop {fl : Fl} {l : List Sct} {nm : Str} (hb : l.length ≤ 140737488355328) {ks : List KI} {Q : PEx → Fr → Prop}
    (hr : ∀ t,look t 4 = .int .i64 (idxF (fun s => decide (s.name = nm)) l) → kQ E ks Q .ret { lvl := 0,tmps := mk 19 t,heap := [[]],defers := [] })
    (hn : ∀ t,idxF (fun s => decide (s.name = nm)) l = -1 → kQ E ks Q .norm { lvl := 0,tmps := mk 19 t,heap := [[]],defers := [] }) :
    ∀ (rest pre : List Sct) (t : List (Nat × PV)),l = pre ++ rest → idxG (fun s => decide (s.name = nm)) rest pre.length = idxF (fun s => decide (s.name = nm)) l →
      look t 0 = .vs fl (scts l) → look t 1 = .fn 76 [] [.ip [.str nm]] → look t 7 = .int .i64 l.length → look t 8 = .int .i64 pre.length →
      kQ E (.code p75l0 :: .blk 0 :: ks) Q .norm { lvl := 0,tmps := mk 19 t,heap := [[]],defers := [] } := by
  intro rest
  induction rest with
  | nil =>
    intro pre t hl hi h0 h1 h7 h8
    have e : l.length = pre.length := by rw [hl]; simp
    refine loopK' (c := p75l0) rfl ?_
    repeat' first | ((with_reducible first | refine cS ?_ ?_ | refine oS ?_ ?_ | refine dS ?_ ?_) <;> intro _) | ((with_reducible refine kk ?_ ?_); · rfl) | (simp -implicitDefEqProofs (disch := first | omega | assumption) only [push_cast,simprocAttr,eqTop,eqShL,eqSh,K_seq,h0,h1,h7,h8,e]) | ((with_reducible first | refine cB ?_ ?_ | refine oB ?_ ?_ | refine dB ?_ ?_) <;> intro _)
    exact hn _ hi.symm
  | cons s r ih =>
    intro pre t hl hi h0 h1 h7 h8
    have e : l.length = pre.length + r.length + 1 := by rw [hl]; simp; omega
    have hg : (scts l)[pre.length]? = some (.agg [.str s.name,.vs s.fl (flds s.fs)]) := by rw [hl]; exact get_at _ _ _ _
    skip
    refine loopK' (c := p75l0) rfl ?_
    repeat' first | ((with_reducible first | refine cS ?_ ?_ | refine oS ?_ ?_ | refine dS ?_ ?_) <;> intro _) | ((with_reducible refine kk ?_ ?_); · rfl) | (simp -implicitDefEqProofs (disch := first | omega | assumption) only [push_cast,simprocAttr,eqTop,eqShL,eqSh,K_seq,h0,h1,h7,h8,hg,steq_ok,List.take_left',List.take_append_of_le_length,List.take_of_length_le]) | ((with_reducible first | refine cB ?_ ?_ | refine oB ?_ ?_ | refine dB ?_ ?_) <;> intro _)
    · rename_i hp
      refine hr _ ?_
      simp only [look,if_pos, ↓reduceIte,Nat.reduceEqDiff]
      rw [← hi]
      simp [idxG,hp]
    · rename_i hp
      refine ih (pre ++ [s]) _ (by simp [hl]) ?_ (by simp [look,look_keepL,h0]) (by simp [look,look_keepL,h1]) (by simp [look,look_keepL,h7]) (by simp [look,look_keepL])
      rw [← hi]
      simp [idxG,hp]
theorem ixs_ok (fl : Fl) (l : List Sct) (nm : Str) (hb : l.length ≤ 140737488355328) (h : Heap) : doCall E (callR E) 75 [.vs fl (scts l),.fn 76 [] [.ip [.str nm]]] h = some (.int .i64 (idxF (fun s => decide (s.name = nm)) l),h) := by
  refine call_pure (pf := p75) rfl rfl rfl rfl (by simp [PV.lowL,PV.low,scts_low]) (by simp [PV.low,PV.lowL,scts_low]) ?_ h
  show kQ E _ (endQ [⟨4,none⟩] _) .norm { lvl := 0,tmps := mk 19 [(0,.vs fl (scts l)),(1,.fn 76 [] [.ip [.str nm]])],heap := [[]],defers := [] }
  repeat' first | ((with_reducible first | refine cS ?_ ?_ | refine oS ?_ ?_ | refine dS ?_ ?_) <;> intro _) | ((with_reducible refine kk ?_ ?_); · rfl) | (simp -implicitDefEqProofs (disch := first | omega | assumption) only [push_cast,simprocAttr,eqTop,eqShL,eqSh,K_seq]) | ((with_reducible first | refine cB ?_ ?_ | refine oB ?_ ?_ | refine dB ?_ ?_) <;> intro _)
  refine ixs_loop (fl := fl) (nm := nm) hb ?_ ?_ l [] _ rfl rfl (by simp [look,look_keepL]) (by simp [look,look_keepL]) (by simp [look,look_keepL]) (by simp [look,look_keepL])
  all_goals
    intro t h4
    repeat' first | ((with_reducible first | refine cS ?_ ?_ | refine oS ?_ ?_ | refine dS ?_ ?_) <;> intro _) | ((with_reducible refine kk ?_ ?_); · rfl) | (simp -implicitDefEqProofs (disch := first | omega | assumption) only [push_cast,simprocAttr,eqTop,eqShL,eqSh,K_seq,h4]) | ((with_reducible first | refine cB ?_ ?_ | refine oB ?_ ?_ | refine dB ?_ ?_) <;> intro _)
theorem ixn_loop {fl : Fl} {l : List Fun'} {nm : Str} (hb : l.length ≤ 140737488355328) {ks : List KI} {Q : PEx → Fr → Prop}
    (hr : ∀ t,look t 4 = .int .i64 (idxF (fun s => decide (s.name = nm)) l) → kQ E ks Q .ret { lvl := 0,tmps := mk 19 t,heap := [[]],defers := [] })
    (hn : ∀ t,idxF (fun s => decide (s.name = nm)) l = -1 → kQ E ks Q .norm { lvl := 0,tmps := mk 19 t,heap := [[]],defers := [] }) :
    ∀ (rest pre : List Fun') (t : List (Nat × PV)),l = pre ++ rest → idxG (fun s => decide (s.name = nm)) rest pre.length = idxF (fun s => decide (s.name = nm)) l →
      look t 0 = .vs fl (funs l) → look t 1 = .fn 78 [] [.ip [.str nm]] → look t 7 = .int .i64 l.length → look t 8 = .int .i64 pre.length →
      kQ E (.code p77l0 :: .blk 0 :: ks) Q .norm { lvl := 0,tmps := mk 19 t,heap := [[]],defers := [] } := by
  intro rest
  induction rest with
  | nil =>
    intro pre t hl hi h0 h1 h7 h8
    have e : l.length = pre.length := by rw [hl]; simp
    refine loopK' (c := p77l0) rfl ?_
    repeat' first | ((with_reducible first | refine cS ?_ ?_ | refine oS ?_ ?_ | refine dS ?_ ?_) <;> intro _) | ((with_reducible refine kk ?_ ?_); · rfl) | (simp -implicitDefEqProofs (disch := first | omega | assumption) only [push_cast,simprocAttr,eqTop,eqShL,eqSh,K_seq,h0,h1,h7,h8,e]) | ((with_reducible first | refine cB ?_ ?_ | refine oB ?_ ?_ | refine dB ?_ ?_) <;> intro _)
    exact hn _ hi.symm
  | cons s r ih =>
    intro pre t hl hi h0 h1 h7 h8
    have e : l.length = pre.length + r.length + 1 := by rw [hl]; simp; omega
    have hg : (funs l)[pre.length]? = some (.agg (.str s.name :: .vs s.fl (flds s.ps) :: .int .i64 s.res.kind :: .str s.res.name :: .vs s.fb s.body :: s.ret)) := by rw [hl]; exact get_at _ _ _ _
    have hrl := s.hl
    refine loopK' (c := p77l0) rfl ?_
    repeat' first | ((with_reducible first | refine cS ?_ ?_ | refine oS ?_ ?_ | refine dS ?_ ?_) <;> intro _) | ((with_reducible refine kk ?_ ?_); · rfl) | (simp -implicitDefEqProofs (disch := first | omega | assumption) only [push_cast,simprocAttr,eqTop,eqShL,eqSh,K_seq,h0,h1,h7,h8,hg,fneq_ok,List.take_left',List.take_append_of_le_length,List.take_of_length_le,hrl,Fun'.ret_take]) | ((with_reducible first | refine cB ?_ ?_ | refine oB ?_ ?_ | refine dB ?_ ?_) <;> intro _)
    · rename_i hp
      refine hr _ ?_
      simp only [look,if_pos, ↓reduceIte,Nat.reduceEqDiff]
      rw [← hi]
      simp [idxG,hp]
    · rename_i hp
      refine ih (pre ++ [s]) _ (by simp [hl]) ?_ (by simp [look,look_keepL,h0]) (by simp [look,look_keepL,h1]) (by simp [look,look_keepL,h7]) (by simp [look,look_keepL])
      rw [← hi]
      simp [idxG,hp]
theorem ixn_ok (fl : Fl) (l : List Fun') (nm : Str) (hb : l.length ≤ 140737488355328) (h : Heap) : doCall E (callR E) 77 [.vs fl (funs l),.fn 78 [] [.ip [.str nm]]] h = some (.int .i64 (idxF (fun s => decide (s.name = nm)) l),h) := by
  refine call_pure (pf := p77) rfl rfl rfl rfl (by simp [PV.lowL,PV.low,funs_low]) (by simp [PV.low,PV.lowL,funs_low]) ?_ h
  show kQ E _ (endQ [⟨4,none⟩] _) .norm { lvl := 0,tmps := mk 19 [(0,.vs fl (funs l)),(1,.fn 78 [] [.ip [.str nm]])],heap := [[]],defers := [] }
  repeat' first | ((with_reducible first | refine cS ?_ ?_ | refine oS ?_ ?_ | refine dS ?_ ?_) <;> intro _) | ((with_reducible refine kk ?_ ?_); · rfl) | (simp -implicitDefEqProofs (disch := first | omega | assumption) only [push_cast,simprocAttr,eqTop,eqShL,eqSh,K_seq]) | ((with_reducible first | refine cB ?_ ?_ | refine oB ?_ ?_ | refine dB ?_ ?_) <;> intro _)
  refine ixn_loop (fl := fl) (nm := nm) hb ?_ ?_ l [] _ rfl rfl (by simp [look,look_keepL]) (by simp [look,look_keepL]) (by simp [look,look_keepL]) (by simp [look,look_keepL])
  all_goals
    intro t h4
    repeat' first | ((with_reducible first | refine cS ?_ ?_ | refine oS ?_ ?_ | refine dS ?_ ?_) <;> intro _) | ((with_reducible refine kk ?_ ?_); · rfl) | (simp -implicitDefEqProofs (disch := first | omega | assumption) only [push_cast,simprocAttr,eqTop,eqShL,eqSh,K_seq,h4]) | ((with_reducible first | refine cB ?_ ?_ | refine oB ?_ ?_ | refine dB ?_ ?_) <;> intro _)
theorem ixf_loop {fl : Fl} {l : List Fld} {nm : Str} (hb : l.length ≤ 140737488355328) {ks : List KI} {Q : PEx → Fr → Prop}
    (hr : ∀ t,look t 4 = .int .i64 (idxF (fun s => decide (s.name = nm)) l) → kQ E ks Q .ret { lvl := 0,tmps := mk 19 t,heap := [[]],defers := [] })
    (hn : ∀ t,idxF (fun s => decide (s.name = nm)) l = -1 → kQ E ks Q .norm { lvl := 0,tmps := mk 19 t,heap := [[]],defers := [] }) :
    ∀ (rest pre : List Fld) (t : List (Nat × PV)),l = pre ++ rest → idxG (fun s => decide (s.name = nm)) rest pre.length = idxF (fun s => decide (s.name = nm)) l →
      look t 0 = .vs fl (flds l) → look t 1 = .fn 123 [] [.ip [.str nm]] → look t 7 = .int .i64 l.length → look t 8 = .int .i64 pre.length →
      kQ E (.code p122l0 :: .blk 0 :: ks) Q .norm { lvl := 0,tmps := mk 19 t,heap := [[]],defers := [] } := by
  intro rest
  induction rest with
  | nil =>
    intro pre t hl hi h0 h1 h7 h8
    have e : l.length = pre.length := by rw [hl]; simp
    refine loopK' (c := p122l0) rfl ?_
    repeat' first | ((with_reducible first | refine cS ?_ ?_ | refine oS ?_ ?_ | refine dS ?_ ?_) <;> intro _) | ((with_reducible refine kk ?_ ?_); · rfl) | (simp -implicitDefEqProofs (disch := first | omega | assumption) only [push_cast,simprocAttr,eqTop,eqShL,eqSh,K_seq,h0,h1,h7,h8,e]) | ((with_reducible first | refine cB ?_ ?_ | refine oB ?_ ?_ | refine dB ?_ ?_) <;> intro _)
    exact hn _ hi.symm
  | cons s r ih =>
    intro pre t hl hi h0 h1 h7 h8
    have e : l.length = pre.length + r.length + 1 := by rw [hl]; simp; omega
    have hg : (flds l)[pre.length]? = some (.agg [.str s.name,.int .i64 s.ty.kind,.str s.ty.name]) := by rw [hl]; exact get_at _ _ _ _
    skip
    refine loopK' (c := p122l0) rfl ?_
    repeat' first | ((with_reducible first | refine cS ?_ ?_ | refine oS ?_ ?_ | refine dS ?_ ?_) <;> intro _) | ((with_reducible refine kk ?_ ?_); · rfl) | (simp -implicitDefEqProofs (disch := first | omega | assumption) only [push_cast,simprocAttr,eqTop,eqShL,eqSh,K_seq,h0,h1,h7,h8,hg,fdeq_ok,List.take_left',List.take_append_of_le_length,List.take_of_length_le]) | ((with_reducible first | refine cB ?_ ?_ | refine oB ?_ ?_ | refine dB ?_ ?_) <;> intro _)
    · rename_i hp
      refine hr _ ?_
      simp only [look,if_pos, ↓reduceIte,Nat.reduceEqDiff]
      rw [← hi]
      simp [idxG,hp]
    · rename_i hp
      refine ih (pre ++ [s]) _ (by simp [hl]) ?_ (by simp [look,look_keepL,h0]) (by simp [look,look_keepL,h1]) (by simp [look,look_keepL,h7]) (by simp [look,look_keepL])
      rw [← hi]
      simp [idxG,hp]
theorem ixf_ok (fl : Fl) (l : List Fld) (nm : Str) (hb : l.length ≤ 140737488355328) (h : Heap) : doCall E (callR E) 122 [.vs fl (flds l),.fn 123 [] [.ip [.str nm]]] h = some (.int .i64 (idxF (fun s => decide (s.name = nm)) l),h) := by
  refine call_pure (pf := p122) rfl rfl rfl rfl (by simp [PV.lowL,PV.low,flds_low]) (by simp [PV.low,PV.lowL,flds_low]) ?_ h
  show kQ E _ (endQ [⟨4,none⟩] _) .norm { lvl := 0,tmps := mk 19 [(0,.vs fl (flds l)),(1,.fn 123 [] [.ip [.str nm]])],heap := [[]],defers := [] }
  repeat' first | ((with_reducible first | refine cS ?_ ?_ | refine oS ?_ ?_ | refine dS ?_ ?_) <;> intro _) | ((with_reducible refine kk ?_ ?_); · rfl) | (simp -implicitDefEqProofs (disch := first | omega | assumption) only [push_cast,simprocAttr,eqTop,eqShL,eqSh,K_seq]) | ((with_reducible first | refine cB ?_ ?_ | refine oB ?_ ?_ | refine dB ?_ ?_) <;> intro _)
  refine ixf_loop (fl := fl) (nm := nm) hb ?_ ?_ l [] _ rfl rfl (by simp [look,look_keepL]) (by simp [look,look_keepL]) (by simp [look,look_keepL]) (by simp [look,look_keepL])
  all_goals
    intro t h4
    repeat' first | ((with_reducible first | refine cS ?_ ?_ | refine oS ?_ ?_ | refine dS ?_ ?_) <;> intro _) | ((with_reducible refine kk ?_ ?_); · rfl) | (simp -implicitDefEqProofs (disch := first | omega | assumption) only [push_cast,simprocAttr,eqTop,eqShL,eqSh,K_seq,h4]) | ((with_reducible first | refine cB ?_ ?_ | refine oB ?_ ?_ | refine dB ?_ ?_) <;> intro _)
end Go.VI.S
