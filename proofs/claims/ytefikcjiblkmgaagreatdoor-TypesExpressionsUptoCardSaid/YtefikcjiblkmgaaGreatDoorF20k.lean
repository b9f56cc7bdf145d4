/- Chapter 20: lists of names and kinds; arguments against parameters; constructors. -/
import Derived.Test.YtefikcjiblkmgaaGreatDoorF20j
set_option maxRecDepth 100000
set_option linter.unusedSimpArgs false
set_option linter.unusedVariables false
set_option pp.deepTerms.threshold 4
set_option pp.deepTerms false
namespace Go.VI.S
open Go.VI
abbrev Ty.v' (t : Ty) : PV := .agg [.int .i64 t.kind,.str t.name]
def tys (l : List Ty) : List PV := l.map Ty.v'
theorem tys_len {l : List Ty} : (tys l).length = l.length := by simp [tys]
theorem tys_low {l : List Ty} : PV.lowL 0 (tys l) = true := low_map _ (fun _ => rfl) l
theorem tys_head {l : List Ty} : headSz 2 (tys l) = true := by cases l <;> rfl
theorem sidx_loop {f : Fl} {l : List Str} {nm : Str} (hb : l.length ≤ 1048576) {ks : List KI} {Q : PEx → Fr → Prop}
    (hr : ∀ t,look t 4 = .int .i64 (idxF (fun s => decide (nm = s)) l) → kQ E ks Q .ret { lvl := 0,tmps := mk 19 t,heap := [[]],defers := [] })
    (hn : ∀ t,idxF (fun s => decide (nm = s)) l = -1 → kQ E ks Q .norm { lvl := 0,tmps := mk 19 t,heap := [[]],defers := [] }) :
    ∀ (rest pre : List Str) (t : List (Nat × PV)),l = pre ++ rest → idxG (fun s => decide (nm = s)) rest pre.length = idxF (fun s => decide (nm = s)) l →
      look t 0 = .vs f (strs l) → look t 1 = .str nm → look t 7 = .int .i64 l.length → look t 8 = .int .i64 pre.length →
      kQ E (.code p155l0 :: .blk 0 :: ks) Q .norm { lvl := 0,tmps := mk 19 t,heap := [[]],defers := [] } := by
  intro rest
  induction rest with
  | nil =>
    intro pre t hl hi h0 h1 h7 h8
    have e : l.length = pre.length := by rw [hl]; simp
    refine loopK' (c := p155l0) rfl ?_
    repeat' first | ((with_reducible first | refine cS ?_ ?_ | refine oS ?_ ?_ | refine dS ?_ ?_) <;> intro _) | ((with_reducible refine kk ?_ ?_); · rfl) | (simp -implicitDefEqProofs (disch := first | omega | assumption) only [push_cast,simprocAttr,eqTop,eqShL,eqSh,K_seq,h0,h1,h7,h8,e]) | ((with_reducible first | refine cB ?_ ?_ | refine oB ?_ ?_ | refine dB ?_ ?_) <;> intro _)
    exact hn _ hi.symm
  | cons s r ih =>
    intro pre t hl hi h0 h1 h7 h8
    have e : l.length = pre.length + r.length + 1 := by rw [hl]; simp; omega
    have hg : (strs l)[pre.length]? = some (.str s) := by rw [hl]; exact get_at _ _ _ _
    refine loopK' (c := p155l0) rfl ?_
    repeat' first | ((with_reducible first | refine cS ?_ ?_ | refine oS ?_ ?_ | refine dS ?_ ?_) <;> intro _) | ((with_reducible refine kk ?_ ?_); · rfl) | (simp -implicitDefEqProofs (disch := first | omega | assumption) only [push_cast,simprocAttr,eqTop,eqShL,eqSh,K_seq,h0,h1,h7,h8,hg,binS,str_beq]) | ((with_reducible first | refine cB ?_ ?_ | refine oB ?_ ?_ | refine dB ?_ ?_) <;> intro _)
    · rename_i hp
      refine hr _ ?_
      simp only [look,if_pos, ↓reduceIte,Nat.reduceEqDiff]
      rw [← hi]
      simp [idxG,hp]
    · rename_i hp
      refine ih (pre ++ [s]) _ (by simp [hl]) ?_ (by simp [look,look_keepL,h0]) (by simp [look,look_keepL,h1]) (by simp [look,look_keepL,h7]) (by simp [look,look_keepL])
      rw [← hi]
      simp [idxG,hp]
def sidxF (l : List Str) (nm : Str) : Int := idxF (fun s => decide (nm = s)) l
theorem sidx_ok (f : Fl) (l : List Str) (nm : Str) (hb : l.length ≤ 1048576) (h : Heap) : doCall E (callR E) 155 [.vs f (strs l),.str nm] h = some (.int .i64 (sidxF l nm),h) := by
  refine call_pure (pf := p155) rfl rfl rfl rfl (by simp [PV.lowL,PV.low,strs_low]) (by simp [PV.low,PV.lowL,strs_low]) ?_ h
  show kQ E _ (endQ [⟨4,none⟩] _) .norm { lvl := 0,tmps := mk 19 [(0,.vs f (strs l)),(1,.str nm)],heap := [[]],defers := [] }
  repeat' first | ((with_reducible first | refine cS ?_ ?_ | refine oS ?_ ?_ | refine dS ?_ ?_) <;> intro _) | ((with_reducible refine kk ?_ ?_); · rfl) | (simp -implicitDefEqProofs (disch := first | omega | assumption) only [push_cast,simprocAttr,eqTop,eqShL,eqSh,K_seq]) | ((with_reducible first | refine cB ?_ ?_ | refine oB ?_ ?_ | refine dB ?_ ?_) <;> intro _)
  refine sidx_loop (f := f) (nm := nm) hb ?_ ?_ l [] _ rfl rfl (by simp [look,look_keepL]) (by simp [look,look_keepL]) (by simp [look,look_keepL]) (by simp [look,look_keepL])
  all_goals
    intro t h4
    unfold sidxF
    repeat' first | ((with_reducible first | refine cS ?_ ?_ | refine oS ?_ ?_ | refine dS ?_ ?_) <;> intro _) | ((with_reducible refine kk ?_ ?_); · rfl) | (simp -implicitDefEqProofs (disch := first | omega | assumption) only [push_cast,simprocAttr,eqTop,eqShL,eqSh,K_seq,h4]) | ((with_reducible first | refine cB ?_ ?_ | refine oB ?_ ?_ | refine dB ?_ ?_) <;> intro _)
theorem shas_ok (f : Fl) (l : List Str) (nm : Str) (hb : l.length ≤ 1048576) (h : Heap) : doCall E (callR E) 159 [.vs f (strs l),.str nm] h = some (.bool (decide (sidxF l nm ≥ 0)),h) := by
  refine call_pure (pf := p159) rfl rfl rfl rfl (by simp [PV.lowL,PV.low,strs_low]) (by simp [PV.low,PV.lowL,strs_low]) ?_ h
  show kQ E _ (endQ [⟨4,none⟩] _) .norm { lvl := 0,tmps := mk 9 [(0,.vs f (strs l)),(1,.str nm)],heap := [[]],defers := [] }
  repeat' first | ((with_reducible first | refine cS ?_ ?_ | refine oS ?_ ?_ | refine dS ?_ ?_) <;> intro _) | ((with_reducible refine kk ?_ ?_); · rfl) | (simp -implicitDefEqProofs (disch := first | omega | assumption) only [push_cast,simprocAttr,eqTop,eqShL,eqSh,K_seq,sidx_ok,hb]) | ((with_reducible first | refine cB ?_ ?_ | refine oB ?_ ?_ | refine dB ?_ ?_) <;> intro _)
theorem glob0 : E.glob 0 = .ip [.vs .any (strs wordsL)] := rfl
theorem glob1 : E.glob 1 = .ip [.vs .any (strs builtinsL)] := rfl
theorem words_len : wordsL.length = 7 := rfl
theorem builtins_len : builtinsL.length = 14 := rfl
def wordF (nm : Str) : Int := sidxF wordsL nm + 1
theorem wordF_bd (nm : Str) : 0 ≤ wordF nm ∧ wordF nm ≤ 7 := by
  have h := idxF_bd (fun s => decide (nm = s)) wordsL
  rw [words_len] at h
  unfold wordF sidxF
  omega
theorem word_ok (nm : Str) (h : Heap) : doCall E (callR E) 127 [.str nm] h = some (.int .i64 (wordF nm),h) := by
  have hb := wordF_bd nm
  have h1 : wordsL.length ≤ 1048576 := by decide
  unfold wordF at hb
  refine call_pure (pf := p127) rfl rfl rfl rfl (by simp [PV.lowL,PV.low]) (by simp [PV.low,PV.lowL]) ?_ h
  show kQ E _ (endQ [⟨2,none⟩] _) .norm { lvl := 0,tmps := mk 7 [(0,.str nm)],heap := [[]],defers := [] }
  repeat' first | ((with_reducible first | refine cS ?_ ?_ | refine oS ?_ ?_ | refine dS ?_ ?_) <;> intro _) | ((with_reducible refine kk ?_ ?_); · rfl) | (simp -implicitDefEqProofs (disch := first | omega | assumption) only [push_cast,simprocAttr,eqTop,eqShL,eqSh,K_seq,glob0,sidx_ok,h1]) | ((with_reducible first | refine cB ?_ ?_ | refine oB ?_ ?_ | refine dB ?_ ?_) <;> intro _)
  rfl
def bltF (nm : Str) : Bool := decide (sidxF builtinsL nm ≥ 0)
theorem blt_ok (nm : Str) (h : Heap) : doCall E (callR E) 131 [.str nm] h = some (.bool (bltF nm),h) := by
  have h1 : builtinsL.length ≤ 1048576 := by decide
  refine call_pure (pf := p131) rfl rfl rfl rfl (by simp [PV.lowL,PV.low]) (by simp [PV.low,PV.lowL]) ?_ h
  show kQ E _ (endQ [⟨2,none⟩] _) .norm { lvl := 0,tmps := mk 6 [(0,.str nm)],heap := [[]],defers := [] }
  repeat' first | ((with_reducible first | refine cS ?_ ?_ | refine oS ?_ ?_ | refine dS ?_ ?_) <;> intro _) | ((with_reducible refine kk ?_ ?_); · rfl) | (simp -implicitDefEqProofs (disch := first | omega | assumption) only [push_cast,simprocAttr,eqTop,eqShL,eqSh,K_seq,glob1,shas_ok,h1,bltF]) | ((with_reducible first | refine cB ?_ ?_ | refine oB ?_ ?_ | refine dB ?_ ?_) <;> intro _)
theorem khas3_ok (f : Fl) (a b c k : Int) (h : Heap) : doCall E (callR E) 156 [.vs f [.int .i64 a,.int .i64 b,.int .i64 c],.int .i64 k] h = some (.bool (decide (k = a ∨ k = b ∨ k = c)),h) := by
  have hi : ∀ h,doCall E (callR E) 179 [.vs f [.int .i64 a,.int .i64 b,.int .i64 c],.int .i64 k] h = some (.int .i64 (if k = a then 0 else if k = b then 1 else if k = c then 2 else -1),h) := by
    intro h
    refine call_pure (pf := p179) rfl rfl rfl rfl (by simp [PV.lowL,PV.low]) (by simp [PV.low,PV.lowL]) ?_ h
    show kQ E _ (endQ [⟨4,none⟩] _) .norm { lvl := 0,tmps := mk 19 [(0,.vs f [.int .i64 a,.int .i64 b,.int .i64 c]),(1,.int .i64 k)],heap := [[]],defers := [] }
    repeat' first | ((with_reducible first | refine cS ?_ ?_ | refine oS ?_ ?_ | refine dS ?_ ?_) <;> intro _) | ((with_reducible refine kk ?_ ?_); · rfl) | (simp -implicitDefEqProofs (disch := first | omega | assumption) only [push_cast,simprocAttr,eqTop,eqShL,eqSh,K_seq]) | ((with_reducible first | refine cB ?_ ?_ | refine oB ?_ ?_ | refine dB ?_ ?_) <;> intro _) | refine loopK' (c := p179l0) rfl ?_
    all_goals simp [*]
  refine call_pure (pf := p156) rfl rfl rfl rfl (by simp [PV.lowL,PV.low]) (by simp [PV.low,PV.lowL]) ?_ h
  show kQ E _ (endQ [⟨4,none⟩] _) .norm { lvl := 0,tmps := mk 9 [(0,.vs f [.int .i64 a,.int .i64 b,.int .i64 c]),(1,.int .i64 k)],heap := [[]],defers := [] }
  repeat' first | ((with_reducible first | refine cS ?_ ?_ | refine oS ?_ ?_ | refine dS ?_ ?_) <;> intro _) | ((with_reducible refine kk ?_ ?_); · rfl) | (simp -implicitDefEqProofs (disch := first | omega | assumption) only [push_cast,simprocAttr,eqTop,eqShL,eqSh,K_seq,hi]) | ((with_reducible first | refine cB ?_ ?_ | refine oB ?_ ?_ | refine dB ?_ ?_) <;> intro _)
  congr 1
  (repeat' split) <;> simp [*]
theorem khas2_ok (f : Fl) (a b k : Int) (h : Heap) : doCall E (callR E) 156 [.vs f [.int .i64 a,.int .i64 b],.int .i64 k] h = some (.bool (decide (k = a ∨ k = b)),h) := by
  have hi : ∀ h,doCall E (callR E) 179 [.vs f [.int .i64 a,.int .i64 b],.int .i64 k] h = some (.int .i64 (if k = a then 0 else if k = b then 1 else -1),h) := by
    intro h
    refine call_pure (pf := p179) rfl rfl rfl rfl (by simp [PV.lowL,PV.low]) (by simp [PV.low,PV.lowL]) ?_ h
    show kQ E _ (endQ [⟨4,none⟩] _) .norm { lvl := 0,tmps := mk 19 [(0,.vs f [.int .i64 a,.int .i64 b]),(1,.int .i64 k)],heap := [[]],defers := [] }
    repeat' first | ((with_reducible first | refine cS ?_ ?_ | refine oS ?_ ?_ | refine dS ?_ ?_) <;> intro _) | ((with_reducible refine kk ?_ ?_); · rfl) | (simp -implicitDefEqProofs (disch := first | omega | assumption) only [push_cast,simprocAttr,eqTop,eqShL,eqSh,K_seq]) | ((with_reducible first | refine cB ?_ ?_ | refine oB ?_ ?_ | refine dB ?_ ?_) <;> intro _) | refine loopK' (c := p179l0) rfl ?_
    all_goals simp [*]
  refine call_pure (pf := p156) rfl rfl rfl rfl (by simp [PV.lowL,PV.low]) (by simp [PV.low,PV.lowL]) ?_ h
  show kQ E _ (endQ [⟨4,none⟩] _) .norm { lvl := 0,tmps := mk 9 [(0,.vs f [.int .i64 a,.int .i64 b]),(1,.int .i64 k)],heap := [[]],defers := [] }
  repeat' first | ((with_reducible first | refine cS ?_ ?_ | refine oS ?_ ?_ | refine dS ?_ ?_) <;> intro _) | ((with_reducible refine kk ?_ ?_); · rfl) | (simp -implicitDefEqProofs (disch := first | omega | assumption) only [push_cast,simprocAttr,eqTop,eqShL,eqSh,K_seq,hi]) | ((with_reducible first | refine cB ?_ ?_ | refine oB ?_ ?_ | refine dB ?_ ?_) <;> intro _)
  congr 1
  (repeat' split) <;> simp [*]
theorem khas1_ok (f : Fl) (a k : Int) (h : Heap) : doCall E (callR E) 156 [.vs f [.int .i64 a],.int .i64 k] h = some (.bool (decide (k = a)),h) := by
  have hi : ∀ h,doCall E (callR E) 179 [.vs f [.int .i64 a],.int .i64 k] h = some (.int .i64 (if k = a then 0 else -1),h) := by
    intro h
    refine call_pure (pf := p179) rfl rfl rfl rfl (by simp [PV.lowL,PV.low]) (by simp [PV.low,PV.lowL]) ?_ h
    show kQ E _ (endQ [⟨4,none⟩] _) .norm { lvl := 0,tmps := mk 19 [(0,.vs f [.int .i64 a]),(1,.int .i64 k)],heap := [[]],defers := [] }
    repeat' first | ((with_reducible first | refine cS ?_ ?_ | refine oS ?_ ?_ | refine dS ?_ ?_) <;> intro _) | ((with_reducible refine kk ?_ ?_); · rfl) | (simp -implicitDefEqProofs (disch := first | omega | assumption) only [push_cast,simprocAttr,eqTop,eqShL,eqSh,K_seq]) | ((with_reducible first | refine cB ?_ ?_ | refine oB ?_ ?_ | refine dB ?_ ?_) <;> intro _) | refine loopK' (c := p179l0) rfl ?_
    all_goals simp [*]
  refine call_pure (pf := p156) rfl rfl rfl rfl (by simp [PV.lowL,PV.low]) (by simp [PV.low,PV.lowL]) ?_ h
  show kQ E _ (endQ [⟨4,none⟩] _) .norm { lvl := 0,tmps := mk 9 [(0,.vs f [.int .i64 a]),(1,.int .i64 k)],heap := [[]],defers := [] }
  repeat' first | ((with_reducible first | refine cS ?_ ?_ | refine oS ?_ ?_ | refine dS ?_ ?_) <;> intro _) | ((with_reducible refine kk ?_ ?_); · rfl) | (simp -implicitDefEqProofs (disch := first | omega | assumption) only [push_cast,simprocAttr,eqTop,eqShL,eqSh,K_seq,hi]) | ((with_reducible first | refine cB ?_ ?_ | refine oB ?_ ?_ | refine dB ?_ ?_) <;> intro _)
  congr 1
  (repeat' split) <;> simp [*]
def fitG : List Ty → List Fld → Bool
  | [],[] => true
  | t :: r,f :: s => decide (t = f.ty) && fitG r s
  | _,_ => false
def matchF (ts : List Ty) (ps : List Fld) (res : Ty) : Ty × Int := if ts.length ≠ ps.length then (tz,11) else if fitG ts ps then (res,0) else (tz,12)
theorem match_loop {fa fp : Fl} {ts : List Ty} {ps : List Fld} {res : Ty} (hl : ts.length = ps.length) (hb : ps.length ≤ 1048576) {ks : List KI} {Q : PEx → Fr → Prop} {z : PV}
    (hr : ∀ t ob,fitG ts ps = false → look t 6 = .ptr (0,0) 1 0 0 → look t 7 = .int .i64 12 → kQ E ks Q .ret { lvl := 0,tmps := mk 33 t,heap := [[some (.mem [.agg [.int .i64 0,.str []]] 1 false 2),ob]],defers := [] })
    (hn : ∀ t ob,fitG ts ps = true → look t 5 = .ip [.int .i64 res.kind,.str res.name] → look t 6 = .ptr (0,0) 1 0 0 → kQ E ks Q .norm { lvl := 0,tmps := mk 33 t,heap := [[some (.mem [.agg [.int .i64 0,.str []]] 1 false 2),ob]],defers := [] }) :
    ∀ (rt pt : List Ty) (rp pp : List Fld) (ob : Option Ob) (t : List (Nat × PV)),ts = pt ++ rt → ps = pp ++ rp → pt.length = pp.length → fitG rt rp = fitG ts ps →
      look t 1 = .vs fp (flds ps) → look t 5 = .ip [.int .i64 res.kind,.str res.name] → look t 6 = .ptr (0,0) 1 0 0 → look t 16 = .vs fa (tys ts) → look t 17 = .int .i64 ts.length → look t 18 = .int .i64 pt.length →
      kQ E (.code p129l0 :: .blk 0 :: ks) Q .norm { lvl := 0,tmps := mk 33 t,heap := [[some (.mem [.agg [.int .i64 0,.str []]] 1 false 2),ob]],defers := [] } := by
  intro rt
  induction rt with
  | nil =>
    intro pt rp pp ob t ht hp hpl hf h1 h5 h6 h16 h17 h18
    have e : ts.length = pt.length := by rw [ht]; simp
    have e2 : rp = [] := by
      have := congrArg List.length hp
      simp at this
      exact List.eq_nil_of_length_eq_zero (by omega)
    subst e2
    refine loopK' (c := p129l0) rfl ?_
    repeat' first | ((with_reducible first | refine cS ?_ ?_ | refine oS ?_ ?_ | refine dS ?_ ?_) <;> intro _) | ((with_reducible refine kk ?_ ?_); · rfl) | (simp -implicitDefEqProofs (disch := first | omega | assumption) only [push_cast,simprocAttr,eqTop,eqShL,eqSh,K_seq,h1,h5,h6,h16,h17,h18,e]) | ((with_reducible first | refine cB ?_ ?_ | refine oB ?_ ?_ | refine dB ?_ ?_) <;> intro _)
    exact hn _ _ hf.symm (by simp [look,look_keepL,h5]) (by simp [look,look_keepL,h6])
  | cons s r ih =>
    intro pt rp pp ob t ht hp hpl hf h1 h5 h6 h16 h17 h18
    have e : ts.length = pt.length + r.length + 1 := by rw [ht]; simp; omega
    have elp : ps.length = pp.length + rp.length := by rw [hp]; simp
    match rp,elp,hp,hf with
    | [],elp,_,_ => simp at elp; omega
    | f :: rp',elp,hp,hf =>
      have hg : (tys ts)[pt.length]? = some (.agg [.int .i64 s.kind,.str s.name]) := by rw [ht]; exact get_at _ _ _ _
      have hg2 : (flds ps)[pt.length]? = some (.agg [.str f.name,.int .i64 f.ty.kind,.str f.ty.name]) := by rw [hp,hpl]; exact get_at _ _ _ _
      refine loopK' (c := p129l0) rfl ?_
      repeat' first | ((with_reducible first | refine cS ?_ ?_ | refine oS ?_ ?_ | refine dS ?_ ?_) <;> intro _) | ((with_reducible refine kk ?_ ?_); · rfl) | (simp -implicitDefEqProofs (disch := first | omega | assumption) only [push_cast,simprocAttr,K_seq,ty_eq,ty_eta,h1,h5,h6,h16,h17,h18,hg,hg2]) | ((with_reducible first | refine cB ?_ ?_ | refine oB ?_ ?_ | refine dB ?_ ?_) <;> intro _)
      · rename_i hne
        exact hr _ _ (by rw [← hf]; simp [fitG,hne]) (by simp [look,look_keepL,h6]) (by simp [look])
      · rename_i heq
        have heq' : s = f.ty := by simpa using heq
        exact ih (pt ++ [s]) rp' (pp ++ [f]) _ _ (by simp [ht]) (by simp [hp]) (by simp [hpl]) (by rw [← hf]; simp [fitG,heq']) (by simp [look,look_keepL,h1]) (by simp [look,look_keepL,h5]) (by simp [look,look_keepL,h6]) (by simp [look,look_keepL,h16]) (by simp [look,look_keepL,h17]) (by simp [look,look_keepL])
theorem match_ok (fa fp : Fl) (ts : List Ty) (ps : List Fld) (res : Ty) (hb : ps.length ≤ 1048576) (hb2 : ts.length ≤ 1048576) (h : Heap) : doCall E (callR E) 129 [.vs fa (tys ts),.vs fp (flds ps),.agg [.int .i64 res.kind,.str res.name]] h = some (encR (matchF ts ps res),h) := by
  refine call_pure (pf := p129) rfl rfl rfl rfl (by simp [PV.lowL,PV.low,tys_low,flds_low]) (by simp [PV.low,PV.lowL,tys_low,flds_low]) ?_ h
  show kQ E _ (endQ [⟨6,some (some 2)⟩,⟨7,none⟩] _) .norm { lvl := 0,tmps := mk 33 [(0,.vs fa (tys ts)),(1,.vs fp (flds ps)),(2,.agg [.int .i64 res.kind,.str res.name])],heap := [[none,none]],defers := [] }
  by_cases hl : ts.length = ps.length
  · repeat' first | ((with_reducible first | refine cS ?_ ?_ | refine oS ?_ ?_ | refine dS ?_ ?_) <;> intro _) | ((with_reducible refine kk ?_ ?_); · rfl) | (simp -implicitDefEqProofs (disch := first | omega | assumption) only [push_cast,simprocAttr,eqTop,eqShL,eqSh,K_seq,tys_len]) | ((with_reducible first | refine cB ?_ ?_ | refine oB ?_ ?_ | refine dB ?_ ?_) <;> intro _)
    refine match_loop (fa := fa) (fp := fp) (ts := ts) (ps := ps) (res := res) (z := .junk) hl hb ?_ ?_ ts [] ps [] _ _ rfl rfl rfl rfl (by simp [look,look_keepL]) (by simp [look,look_keepL]) (by simp [look,look_keepL]) (by simp [look,look_keepL]) (by simp [look,look_keepL]) (by simp [look,look_keepL])
    · intro t ob hf h6 h7
      repeat' first | ((with_reducible first | refine cS ?_ ?_ | refine oS ?_ ?_ | refine dS ?_ ?_) <;> intro _) | ((with_reducible refine kk ?_ ?_); · rfl) | (simp -implicitDefEqProofs (disch := first | omega | assumption) only [push_cast,simprocAttr,eqTop,eqShL,eqSh,K_seq,h6,h7]) | ((with_reducible first | refine cB ?_ ?_ | refine oB ?_ ?_ | refine dB ?_ ?_) <;> intro _)
      simp [matchF,hl,hf]
    · intro t ob hf h5 h6
      repeat' first | ((with_reducible first | refine cS ?_ ?_ | refine oS ?_ ?_ | refine dS ?_ ?_) <;> intro _) | ((with_reducible refine kk ?_ ?_); · rfl) | (simp -implicitDefEqProofs (disch := first | omega | assumption) only [push_cast,simprocAttr,eqTop,eqShL,eqSh,K_seq,h5,h6]) | ((with_reducible first | refine cB ?_ ?_ | refine oB ?_ ?_ | refine dB ?_ ?_) <;> intro _)
      simp [matchF,hl,hf]
  · repeat' first | ((with_reducible first | refine cS ?_ ?_ | refine oS ?_ ?_ | refine dS ?_ ?_) <;> intro _) | ((with_reducible refine kk ?_ ?_); · rfl) | (simp -implicitDefEqProofs (disch := first | omega | assumption) only [push_cast,simprocAttr,eqTop,eqShL,eqSh,K_seq,tys_len]) | ((with_reducible first | refine cB ?_ ?_ | refine oB ?_ ?_ | refine dB ?_ ?_) <;> intro _)
    simp [matchF,hl]
end Go.VI.S
