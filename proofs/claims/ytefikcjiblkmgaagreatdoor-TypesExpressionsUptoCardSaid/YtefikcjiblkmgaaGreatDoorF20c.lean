/- Chapter 20: structs, functions and fields by their names; numbers of components. -/
import Derived.Test.YtefikcjiblkmgaaGreatDoorF20b
set_option maxRecDepth 100000
set_option linter.unusedSimpArgs false
set_option linter.unusedVariables false
set_option pp.deepTerms.threshold 4
set_option pp.deepTerms false
namespace Go.VI.S
open Go.VI
def stF (m : Mod) (nm : Str) : Int := idxF (fun s => decide (s.name = nm)) m.ss
def fnF (m : Mod) (nm : Str) : Int := idxF (fun s => decide (s.name = nm)) m.fs
def fdF (l : List Fld) (nm : Str) : Int := idxF (fun s => decide (s.name = nm)) l
theorem find_ok (m : Mod) (hm : m.Ok) (nm : Str) (h : Heap) : doCall E (callR E) 30 [.agg m.c,.str nm] h = some (.int .i64 (stF m nm),h) := by
  have h1 := m.hm
  have h2 := hm.ss
  refine call_pure (pf := p30) rfl rfl rfl rfl (by simp [PV.lowL,PV.low,strs_low,flds_low,scts_low,funs_low,h1]) (by simp [PV.low,PV.lowL,strs_low,flds_low,scts_low,funs_low,h1]) ?_ h
  show kQ E _ (endQ [⟨4,none⟩] _) .norm { lvl := 0,tmps := mk 9 [(0,.agg m.c),(1,.str nm)],heap := [[]],defers := [] }
  repeat' first | ((with_reducible first | refine cS ?_ ?_ | refine oS ?_ ?_ | refine dS ?_ ?_) <;> intro _) | ((with_reducible refine kk ?_ ?_); · rfl) | (simp -implicitDefEqProofs (disch := first | omega | assumption) only [push_cast,simprocAttr,eqTop,eqShL,eqSh,K_seq,ixs_ok,h1,stF]) | ((with_reducible first | refine cB ?_ ?_ | refine oB ?_ ?_ | refine dB ?_ ?_) <;> intro _)
theorem findf_ok (m : Mod) (hm : m.Ok) (nm : Str) (h : Heap) : doCall E (callR E) 32 [.agg m.c,.str nm] h = some (.int .i64 (fnF m nm),h) := by
  have h1 := m.hm
  have h2 := hm.fs
  refine call_pure (pf := p32) rfl rfl rfl rfl (by simp [PV.lowL,PV.low,strs_low,flds_low,scts_low,funs_low,h1]) (by simp [PV.low,PV.lowL,strs_low,flds_low,scts_low,funs_low,h1]) ?_ h
  show kQ E _ (endQ [⟨4,none⟩] _) .norm { lvl := 0,tmps := mk 9 [(0,.agg m.c),(1,.str nm)],heap := [[]],defers := [] }
  repeat' first | ((with_reducible first | refine cS ?_ ?_ | refine oS ?_ ?_ | refine dS ?_ ?_) <;> intro _) | ((with_reducible refine kk ?_ ?_); · rfl) | (simp -implicitDefEqProofs (disch := first | omega | assumption) only [push_cast,simprocAttr,eqTop,eqShL,eqSh,K_seq,ixn_ok,h1,fnF]) | ((with_reducible first | refine cB ?_ ?_ | refine oB ?_ ?_ | refine dB ?_ ?_) <;> intro _)
theorem fidx_ok (f : Fl) (l : List Fld) (hl : l.length ≤ 1048576) (nm : Str) (h : Heap) : doCall E (callR E) 68 [.vs f (flds l),.str nm] h = some (.int .i64 (fdF l nm),h) := by
  refine call_pure (pf := p68) rfl rfl rfl rfl (by simp [PV.lowL,PV.low,flds_low]) (by simp [PV.low,PV.lowL,flds_low]) ?_ h
  show kQ E _ (endQ [⟨4,none⟩] _) .norm { lvl := 0,tmps := mk 8 [(0,.vs f (flds l)),(1,.str nm)],heap := [[]],defers := [] }
  repeat' first | ((with_reducible first | refine cS ?_ ?_ | refine oS ?_ ?_ | refine dS ?_ ?_) <;> intro _) | ((with_reducible refine kk ?_ ?_); · rfl) | (simp -implicitDefEqProofs (disch := first | omega | assumption) only [push_cast,simprocAttr,eqTop,eqShL,eqSh,K_seq,ixf_ok,fdF]) | ((with_reducible first | refine cB ?_ ?_ | refine oB ?_ ?_ | refine dB ?_ ?_) <;> intro _)
theorem rfind_loop (m : Mod) (hm : m.Ok) (nm : Str) {ks : List KI} {Q : PEx → Fr → Prop}
    (hr : ∀ t,look t 4 = .int .i64 (stF m nm) → kQ E ks Q .ret { lvl := 0,tmps := mk 22 t,heap := [[]],defers := [] })
    (hn : ∀ t,stF m nm = -1 → kQ E ks Q .norm { lvl := 0,tmps := mk 22 t,heap := [[]],defers := [] }) :
    ∀ (rest pre : List Sct) (t : List (Nat × PV)),m.ss = pre ++ rest → idxG (fun s => decide (s.name = nm)) rest pre.length = stF m nm →
      look t 2 = .ip m.c → look t 1 = .str nm → look t 5 = .int .i64 pre.length →
      kQ E (.code p31l0 :: .blk 0 :: ks) Q .norm { lvl := 0,tmps := mk 22 t,heap := [[]],defers := [] } := by
  have hb := hm.ss
  intro rest
  induction rest with
  | nil =>
    intro pre t hl hi h0 h1 h5
    have e : m.ss.length = pre.length := by rw [hl]; simp
    refine loopK' (c := p31l0) rfl ?_
    repeat' first | ((with_reducible first | refine cS ?_ ?_ | refine oS ?_ ?_ | refine dS ?_ ?_) <;> intro _) | ((with_reducible refine kk ?_ ?_); · rfl) | (simp -implicitDefEqProofs (disch := first | omega | assumption) only [push_cast,simprocAttr,eqTop,eqShL,eqSh,K_seq,h0,h1,h5,e]) | ((with_reducible first | refine cB ?_ ?_ | refine oB ?_ ?_ | refine dB ?_ ?_) <;> intro _)
    exact hn _ hi.symm
  | cons s r ih =>
    intro pre t hl hi h0 h1 h5
    have e : m.ss.length = pre.length + r.length + 1 := by rw [hl]; simp; omega
    have hg : (scts m.ss)[pre.length]? = some (.agg [.str s.name,.vs s.fl (flds s.fs)]) := by rw [hl]; exact get_at _ _ _ _
    skip
    refine loopK' (c := p31l0) rfl ?_
    repeat' first | ((with_reducible first | refine cS ?_ ?_ | refine oS ?_ ?_ | refine dS ?_ ?_) <;> intro _) | ((with_reducible refine kk ?_ ?_); · rfl) | (simp -implicitDefEqProofs (disch := first | omega | assumption) only [push_cast,simprocAttr,eqTop,eqShL,eqSh,K_seq,h0,h1,h5,hg,binS,str_beq]) | ((with_reducible first | refine cB ?_ ?_ | refine oB ?_ ?_ | refine dB ?_ ?_) <;> intro _)
    · rename_i hp
      refine hr _ ?_
      simp only [look,if_pos, ↓reduceIte,Nat.reduceEqDiff]
      rw [← hi]
      simp [idxG,hp]
    · rename_i hp
      refine ih (pre ++ [s]) _ (by simp [hl]) ?_ (by simp [look,look_keepL,h0]) (by simp [look,look_keepL,h1]) (by simp [look,look_keepL])
      rw [← hi]
      simp [idxG,hp]
theorem rfind_ok (m : Mod) (hm : m.Ok) (nm : Str) (h : Heap) : doCall E (callR E) 31 [.agg m.c,.str nm] h = some (.int .i64 (stF m nm),h) := by
  have h1 := m.hm
  refine call_pure (pf := p31) rfl rfl rfl rfl (by simp [PV.lowL,PV.low,strs_low,flds_low,scts_low,funs_low,h1]) (by simp [PV.low,PV.lowL,strs_low,flds_low,scts_low,funs_low,h1]) ?_ h
  show kQ E _ (endQ [⟨4,none⟩] _) .norm { lvl := 0,tmps := mk 22 [(0,.agg m.c),(1,.str nm)],heap := [[]],defers := [] }
  repeat' first | ((with_reducible first | refine cS ?_ ?_ | refine oS ?_ ?_ | refine dS ?_ ?_) <;> intro _) | ((with_reducible refine kk ?_ ?_); · rfl) | (simp -implicitDefEqProofs (disch := first | omega | assumption) only [push_cast,simprocAttr,eqTop,eqShL,eqSh,K_seq,h1]) | ((with_reducible first | refine cB ?_ ?_ | refine oB ?_ ?_ | refine dB ?_ ?_) <;> intro _)
  refine rfind_loop m hm nm ?_ ?_ m.ss [] _ rfl rfl (by simp [look,look_keepL]) (by simp [look,look_keepL]) (by simp [look,look_keepL])
  all_goals
    intro t h4
    repeat' first | ((with_reducible first | refine cS ?_ ?_ | refine oS ?_ ?_ | refine dS ?_ ?_) <;> intro _) | ((with_reducible refine kk ?_ ?_); · rfl) | (simp -implicitDefEqProofs (disch := first | omega | assumption) only [push_cast,simprocAttr,eqTop,eqShL,eqSh,K_seq,h4]) | ((with_reducible first | refine cB ?_ ?_ | refine oB ?_ ?_ | refine dB ?_ ?_) <;> intro _)
theorem rfindf_loop (m : Mod) (hm : m.Ok) (nm : Str) {ks : List KI} {Q : PEx → Fr → Prop}
    (hr : ∀ t,look t 4 = .int .i64 (fnF m nm) → kQ E ks Q .ret { lvl := 0,tmps := mk 22 t,heap := [[]],defers := [] })
    (hn : ∀ t,fnF m nm = -1 → kQ E ks Q .norm { lvl := 0,tmps := mk 22 t,heap := [[]],defers := [] }) :
    ∀ (rest pre : List Fun') (t : List (Nat × PV)),m.fs = pre ++ rest → idxG (fun s => decide (s.name = nm)) rest pre.length = fnF m nm →
      look t 2 = .ip m.c → look t 1 = .str nm → look t 5 = .int .i64 pre.length →
      kQ E (.code p33l0 :: .blk 0 :: ks) Q .norm { lvl := 0,tmps := mk 22 t,heap := [[]],defers := [] } := by
  have hb := hm.fs
  intro rest
  induction rest with
  | nil =>
    intro pre t hl hi h0 h1 h5
    have e : m.fs.length = pre.length := by rw [hl]; simp
    refine loopK' (c := p33l0) rfl ?_
    repeat' first | ((with_reducible first | refine cS ?_ ?_ | refine oS ?_ ?_ | refine dS ?_ ?_) <;> intro _) | ((with_reducible refine kk ?_ ?_); · rfl) | (simp -implicitDefEqProofs (disch := first | omega | assumption) only [push_cast,simprocAttr,eqTop,eqShL,eqSh,K_seq,h0,h1,h5,e]) | ((with_reducible first | refine cB ?_ ?_ | refine oB ?_ ?_ | refine dB ?_ ?_) <;> intro _)
    exact hn _ hi.symm
  | cons s r ih =>
    intro pre t hl hi h0 h1 h5
    have e : m.fs.length = pre.length + r.length + 1 := by rw [hl]; simp; omega
    have hg : (funs m.fs)[pre.length]? = some (.agg (.str s.name :: .vs s.fl (flds s.ps) :: .int .i64 s.res.kind :: .str s.res.name :: .vs s.fb s.body :: s.ret)) := by rw [hl]; exact get_at _ _ _ _
    have hrl := s.hl
    refine loopK' (c := p33l0) rfl ?_
    repeat' first | ((with_reducible first | refine cS ?_ ?_ | refine oS ?_ ?_ | refine dS ?_ ?_) <;> intro _) | ((with_reducible refine kk ?_ ?_); · rfl) | (simp -implicitDefEqProofs (disch := first | omega | assumption) only [push_cast,simprocAttr,eqTop,eqShL,eqSh,K_seq,h0,h1,h5,hg,binS,str_beq,hrl,Fun'.ret_take]) | ((with_reducible first | refine cB ?_ ?_ | refine oB ?_ ?_ | refine dB ?_ ?_) <;> intro _)
    · rename_i hp
      refine hr _ ?_
      simp only [look,if_pos, ↓reduceIte,Nat.reduceEqDiff]
      rw [← hi]
      simp [idxG,hp]
    · rename_i hp
      refine ih (pre ++ [s]) _ (by simp [hl]) ?_ (by simp [look,look_keepL,h0]) (by simp [look,look_keepL,h1]) (by simp [look,look_keepL])
      rw [← hi]
      simp [idxG,hp]
theorem rfindf_ok (m : Mod) (hm : m.Ok) (nm : Str) (h : Heap) : doCall E (callR E) 33 [.agg m.c,.str nm] h = some (.int .i64 (fnF m nm),h) := by
  have h1 := m.hm
  refine call_pure (pf := p33) rfl rfl rfl rfl (by simp [PV.lowL,PV.low,strs_low,flds_low,scts_low,funs_low,h1]) (by simp [PV.low,PV.lowL,strs_low,flds_low,scts_low,funs_low,h1]) ?_ h
  show kQ E _ (endQ [⟨4,none⟩] _) .norm { lvl := 0,tmps := mk 22 [(0,.agg m.c),(1,.str nm)],heap := [[]],defers := [] }
  repeat' first | ((with_reducible first | refine cS ?_ ?_ | refine oS ?_ ?_ | refine dS ?_ ?_) <;> intro _) | ((with_reducible refine kk ?_ ?_); · rfl) | (simp -implicitDefEqProofs (disch := first | omega | assumption) only [push_cast,simprocAttr,eqTop,eqShL,eqSh,K_seq,h1]) | ((with_reducible first | refine cB ?_ ?_ | refine oB ?_ ?_ | refine dB ?_ ?_) <;> intro _)
  refine rfindf_loop m hm nm ?_ ?_ m.fs [] _ rfl rfl (by simp [look,look_keepL]) (by simp [look,look_keepL]) (by simp [look,look_keepL])
  all_goals
    intro t h4
    repeat' first | ((with_reducible first | refine cS ?_ ?_ | refine oS ?_ ?_ | refine dS ?_ ?_) <;> intro _) | ((with_reducible refine kk ?_ ?_); · rfl) | (simp -implicitDefEqProofs (disch := first | omega | assumption) only [push_cast,simprocAttr,eqTop,eqShL,eqSh,K_seq,h4]) | ((with_reducible first | refine cB ?_ ?_ | refine oB ?_ ?_ | refine dB ?_ ?_) <;> intro _)
theorem rfidx_loop {fl : Fl} (l : List Fld) (hb : l.length ≤ 1048576) (nm : Str) {ks : List KI} {Q : PEx → Fr → Prop}
    (hr : ∀ t,look t 4 = .int .i64 (fdF l nm) → kQ E ks Q .ret { lvl := 0,tmps := mk 20 t,heap := [[]],defers := [] })
    (hn : ∀ t,fdF l nm = -1 → kQ E ks Q .norm { lvl := 0,tmps := mk 20 t,heap := [[]],defers := [] }) :
    ∀ (rest pre : List Fld) (t : List (Nat × PV)),l = pre ++ rest → idxG (fun s => decide (s.name = nm)) rest pre.length = fdF l nm →
      look t 0 = .vs fl (flds l) → look t 1 = .str nm → look t 5 = .int .i64 pre.length →
      kQ E (.code p69l0 :: .blk 0 :: ks) Q .norm { lvl := 0,tmps := mk 20 t,heap := [[]],defers := [] } := by
  skip
  intro rest
  induction rest with
  | nil =>
    intro pre t hl hi h0 h1 h5
    have e : l.length = pre.length := by rw [hl]; simp
    refine loopK' (c := p69l0) rfl ?_
    repeat' first | ((with_reducible first | refine cS ?_ ?_ | refine oS ?_ ?_ | refine dS ?_ ?_) <;> intro _) | ((with_reducible refine kk ?_ ?_); · rfl) | (simp -implicitDefEqProofs (disch := first | omega | assumption) only [push_cast,simprocAttr,eqTop,eqShL,eqSh,K_seq,h0,h1,h5,e]) | ((with_reducible first | refine cB ?_ ?_ | refine oB ?_ ?_ | refine dB ?_ ?_) <;> intro _)
    exact hn _ hi.symm
  | cons s r ih =>
    intro pre t hl hi h0 h1 h5
    have e : l.length = pre.length + r.length + 1 := by rw [hl]; simp; omega
    have hg : (flds l)[pre.length]? = some (.agg [.str s.name,.int .i64 s.ty.kind,.str s.ty.name]) := by rw [hl]; exact get_at _ _ _ _
    skip
    refine loopK' (c := p69l0) rfl ?_
    repeat' first | ((with_reducible first | refine cS ?_ ?_ | refine oS ?_ ?_ | refine dS ?_ ?_) <;> intro _) | ((with_reducible refine kk ?_ ?_); · rfl) | (simp -implicitDefEqProofs (disch := first | omega | assumption) only [push_cast,simprocAttr,eqTop,eqShL,eqSh,K_seq,h0,h1,h5,hg,binS,str_beq]) | ((with_reducible first | refine cB ?_ ?_ | refine oB ?_ ?_ | refine dB ?_ ?_) <;> intro _)
    · rename_i hp
      refine hr _ ?_
      simp only [look,if_pos, ↓reduceIte,Nat.reduceEqDiff]
      rw [← hi]
      simp [idxG,hp]
    · rename_i hp
      refine ih (pre ++ [s]) _ (by simp [hl]) ?_ (by simp [look,look_keepL,h0]) (by simp [look,look_keepL,h1]) (by simp [look,look_keepL])
      rw [← hi]
      simp [idxG,hp]
theorem rfidx_ok (f : Fl) (l : List Fld) (hb : l.length ≤ 1048576) (nm : Str) (h : Heap) : doCall E (callR E) 69 [.vs f (flds l),.str nm] h = some (.int .i64 (fdF l nm),h) := by
  skip
  refine call_pure (pf := p69) rfl rfl rfl rfl (by simp [PV.lowL,PV.low,strs_low,flds_low,scts_low,funs_low]) (by simp [PV.low,PV.lowL,strs_low,flds_low,scts_low,funs_low]) ?_ h
  show kQ E _ (endQ [⟨4,none⟩] _) .norm { lvl := 0,tmps := mk 20 [(0,.vs f (flds l)),(1,.str nm)],heap := [[]],defers := [] }
  repeat' first | ((with_reducible first | refine cS ?_ ?_ | refine oS ?_ ?_ | refine dS ?_ ?_) <;> intro _) | ((with_reducible refine kk ?_ ?_); · rfl) | (simp -implicitDefEqProofs (disch := first | omega | assumption) only [push_cast,simprocAttr,eqTop,eqShL,eqSh,K_seq]) | ((with_reducible first | refine cB ?_ ?_ | refine oB ?_ ?_ | refine dB ?_ ?_) <;> intro _)
  refine rfidx_loop (fl := f) l hb nm ?_ ?_ l [] _ rfl rfl (by simp [look,look_keepL]) (by simp [look,look_keepL]) (by simp [look,look_keepL])
  all_goals
    intro t h4
    repeat' first | ((with_reducible first | refine cS ?_ ?_ | refine oS ?_ ?_ | refine dS ?_ ?_) <;> intro _) | ((with_reducible refine kk ?_ ?_); · rfl) | (simp -implicitDefEqProofs (disch := first | omega | assumption) only [push_cast,simprocAttr,eqTop,eqShL,eqSh,K_seq,h4]) | ((with_reducible first | refine cB ?_ ?_ | refine oB ?_ ?_ | refine dB ?_ ?_) <;> intro _)
end Go.VI.S
