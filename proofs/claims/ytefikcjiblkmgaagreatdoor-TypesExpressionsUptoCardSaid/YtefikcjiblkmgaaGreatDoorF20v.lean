/- Chapter 20: the reference's arguments and constructors. -/
import Derived.Test.YtefikcjiblkmgaaGreatDoorF20u
set_option maxRecDepth 100000
set_option linter.unusedSimpArgs false
set_option linter.unusedVariables false
set_option pp.deepTerms.threshold 4
set_option pp.deepTerms false
namespace Go.VI.S
open Go.VI
theorem gv_loop {fa fp : Fl} {ts : List Ty} {ps : List Fld} {res : Ty} (hl : ts.length = ps.length) (hb : ps.length ≤ 1048576) {ks : List KI} {Q : PEx → Fr → Prop}
    (hr : ∀ t,fitG ts ps = false → look t 6 = .ptr (0,0) 1 0 0 → look t 7 = .int .i64 12 → kQ E ks Q .ret { lvl := 0,tmps := mk 33 t,heap := [[cell0]],defers := [] })
    (hn : ∀ t,fitG ts ps = true → look t 5 = .ip [.int .i64 res.kind,.str res.name] → look t 6 = .ptr (0,0) 1 0 0 → kQ E ks Q .norm { lvl := 0,tmps := mk 33 t,heap := [[cell0]],defers := [] }) :
    ∀ (rt pt : List Ty) (rp pp : List Fld) (t : List (Nat × PV)),ts = pt ++ rt → ps = pp ++ rp → pt.length = pp.length → fitG rt rp = fitG ts ps →
      look t 0 = .vs fp (flds ps) → look t 1 = .vs fa (tys ts) → look t 5 = .ip [.int .i64 res.kind,.str res.name] → look t 6 = .ptr (0,0) 1 0 0 → look t 8 = .int .i64 pt.length →
      kQ E (.code p93l0 :: .blk 0 :: ks) Q .norm { lvl := 0,tmps := mk 33 t,heap := [[cell0]],defers := [] } := by
  intro rt
  induction rt with
  | nil =>
    intro pt rp pp t ht hp hpl hf h0 h1 h5 h6 h8
    have e : ts.length = pt.length := by rw [ht]; simp
    have e2 : rp = [] := by
      have := congrArg List.length hp
      simp at this
      exact List.eq_nil_of_length_eq_zero (by omega)
    subst e2
    refine loopK' (c := p93l0) rfl ?_
    repeat' first | ((with_reducible first | refine cS ?_ ?_ | refine oS ?_ ?_ | refine dS ?_ ?_) <;> intro _) | ((with_reducible refine kk ?_ ?_); · rfl) | (simp -implicitDefEqProofs (disch := first | omega | assumption) only [push_cast,simprocAttr,eqTop,eqShL,eqSh,K_seq,h0,h1,h5,h6,h8,tys_len,e]) | ((with_reducible first | refine cB ?_ ?_ | refine oB ?_ ?_ | refine dB ?_ ?_) <;> intro _)
    exact hn _ hf.symm (by simp [look,look_keepL,h5]) (by simp [look,look_keepL,h6])
  | cons s r ih =>
    intro pt rp pp t ht hp hpl hf h0 h1 h5 h6 h8
    have e : ts.length = pt.length + r.length + 1 := by rw [ht]; simp; omega
    have elp : ps.length = pp.length + rp.length := by rw [hp]; simp
    match rp,elp,hp,hf with
    | [],elp,_,_ => simp at elp; omega
    | f :: rp',elp,hp,hf =>
      have hg : (tys ts)[pt.length]? = some (.agg [.int .i64 s.kind,.str s.name]) := by rw [ht]; exact get_at _ _ _ _
      have hg2 : (flds ps)[pt.length]? = some (.agg [.str f.name,.int .i64 f.ty.kind,.str f.ty.name]) := by rw [hp,hpl]; exact get_at _ _ _ _
      refine loopK' (c := p93l0) rfl ?_
      repeat' first | ((with_reducible first | refine cS ?_ ?_ | refine oS ?_ ?_ | refine dS ?_ ?_) <;> intro _) | ((with_reducible refine kk ?_ ?_); · rfl) | (simp -implicitDefEqProofs (disch := first | omega | assumption) only [push_cast,simprocAttr,K_seq,ty_eq,ty_eta,h0,h1,h5,h6,h8,tys_len,hg,hg2]) | ((with_reducible first | refine cB ?_ ?_ | refine oB ?_ ?_ | refine dB ?_ ?_) <;> intro _)
      · rename_i hne
        exact hr _ (by rw [← hf]; simp [fitG,hne]) (by simp [look,look_keepL,h6]) (by simp [look])
      · rename_i heq
        have heq' : s = f.ty := by simpa using heq
        exact ih (pt ++ [s]) rp' (pp ++ [f]) _ (by simp [ht]) (by simp [hp]) (by simp [hpl]) (by rw [← hf]; simp [fitG,heq']) (by simp [look,look_keepL,h0]) (by simp [look,look_keepL,h1]) (by simp [look,look_keepL,h5]) (by simp [look,look_keepL,h6]) (by simp [look,look_keepL])
theorem given_ok (fa fp : Fl) (ts : List Ty) (ps : List Fld) (res : Ty) (hb : ps.length ≤ 1048576) (hb2 : ts.length ≤ 1048576) (h : Heap) : doCall E (callR E) 93 [.vs fp (flds ps),.vs fa (tys ts),.agg [.int .i64 res.kind,.str res.name]] h = some (encR (matchF ts ps res),h) := by
  refine call_pure (pf := p93) rfl rfl rfl rfl (by simp [PV.lowL,PV.low,tys_low,flds_low]) (by simp [PV.low,PV.lowL,tys_low,flds_low]) ?_ h
  show kQ E _ (endQ [⟨6,some (some 2)⟩,⟨7,none⟩] _) .norm { lvl := 0,tmps := mk 33 [(0,.vs fp (flds ps)),(1,.vs fa (tys ts)),(2,.agg [.int .i64 res.kind,.str res.name])],heap := [[none]],defers := [] }
  by_cases hl : ts.length = ps.length
  · repeat' first | ((with_reducible first | refine cS ?_ ?_ | refine oS ?_ ?_ | refine dS ?_ ?_) <;> intro _) | ((with_reducible refine kk ?_ ?_); · rfl) | (simp -implicitDefEqProofs (disch := first | omega | assumption) only [push_cast,simprocAttr,eqTop,eqShL,eqSh,K_seq,tys_len]) | ((with_reducible first | refine cB ?_ ?_ | refine oB ?_ ?_ | refine dB ?_ ?_) <;> intro _)
    refine gv_loop (fa := fa) (fp := fp) (ts := ts) (ps := ps) (res := res) hl hb ?_ ?_ ts [] ps [] _ rfl rfl rfl rfl (by simp [look,look_keepL]) (by simp [look,look_keepL]) (by simp [look,look_keepL]) (by simp [look,look_keepL]) (by simp [look,look_keepL])
    · intro t hf h6 h7
      repeat' first | ((with_reducible first | refine cS ?_ ?_ | refine oS ?_ ?_ | refine dS ?_ ?_) <;> intro _) | ((with_reducible refine kk ?_ ?_); · rfl) | (simp -implicitDefEqProofs (disch := first | omega | assumption) only [push_cast,simprocAttr,eqTop,eqShL,eqSh,K_seq,h6,h7]) | ((with_reducible first | refine cB ?_ ?_ | refine oB ?_ ?_ | refine dB ?_ ?_) <;> intro _)
      simp [matchF,hl,hf]
    · intro t hf h5 h6
      repeat' first | ((with_reducible first | refine cS ?_ ?_ | refine oS ?_ ?_ | refine dS ?_ ?_) <;> intro _) | ((with_reducible refine kk ?_ ?_); · rfl) | (simp -implicitDefEqProofs (disch := first | omega | assumption) only [push_cast,simprocAttr,eqTop,eqShL,eqSh,K_seq,h5,h6]) | ((with_reducible first | refine cB ?_ ?_ | refine oB ?_ ?_ | refine dB ?_ ?_) <;> intro _)
      simp [matchF,hl,hf]
  · repeat' first | ((with_reducible first | refine cS ?_ ?_ | refine oS ?_ ?_ | refine dS ?_ ?_) <;> intro _) | ((with_reducible refine kk ?_ ?_); · rfl) | (simp -implicitDefEqProofs (disch := first | omega | assumption) only [push_cast,simprocAttr,eqTop,eqShL,eqSh,K_seq,tys_len]) | ((with_reducible first | refine cB ?_ ?_ | refine oB ?_ ?_ | refine dB ?_ ?_) <;> intro _)
    simp [matchF,hl]
set_option maxHeartbeats 2000000 in
theorem byn_ok (m : Mod) (hm : m.Ok) (k o x : Int) (nm : Str) (fl : Fl) (as : List Ex) (h : Heap) : doCall E (callR E) 39 [.agg m.c,.agg [.int .i64 k,.int .i64 o,.str nm,.int .i64 x,.vs fl (exs as)]] h = some (.bool (takesF m k nm),h) := by
  have h1 := m.hm
  by_cases hn : nm ∈ resNames
  · have hw : wordF nm = 0 := by
      simp only [resNames,List.mem_cons,List.not_mem_nil,or_false] at hn
      rcases hn with hn | hn | hn | hn | hn <;> subst hn <;> rfl
    have hr : (rarF nm ≥ 0) = True := by
      simp only [resNames,List.mem_cons,List.not_mem_nil,or_false] at hn
      rcases hn with hn | hn | hn | hn | hn <;> subst hn <;> exact eq_true (by decide)
    have ht : takesF m k nm = (decide (k = 7) && decide (stF m nm < 0)) := by simp [takesF,hn]
    rw [ht]
    simp only [resNames,List.mem_cons,List.not_mem_nil,or_false] at hn
    rcases hn with hn | hn | hn | hn | hn
    all_goals subst hn
    iterate 5
      · skip
        refine call_pure (pf := p39) rfl rfl rfl rfl (by simp [PV.lowL,PV.low,strs_low,flds_low,scts_low,funs_low,h1,exs_low]) (by simp [PV.low,PV.lowL,strs_low,flds_low,scts_low,funs_low,h1,exs_low]) ?_ h
        show kQ E _ (endQ [⟨4,none⟩] _) .norm { lvl := 0,tmps := mk 36 [(0,.agg m.c),(1,.agg [.int .i64 k,.int .i64 o,.str _,.int .i64 x,.vs fl (exs as)])],heap := [[]],defers := [] }
        repeat' first | ((with_reducible first | refine cS ?_ ?_ | refine oS ?_ ?_ | refine dS ?_ ?_) <;> intro _) | ((with_reducible refine kk ?_ ?_); · rfl) | (simp -implicitDefEqProofs (disch := first | omega | assumption) only [push_cast,simprocAttr,eqTop,eqShL,eqSh,K_seq,rblt_ok,hm,h1,hw,hr,binS,l_beq,l_beq0,l_beq1,l_beq2,UInt8.reduceToNat]) | ((with_reducible first | refine cB ?_ ?_ | refine oB ?_ ?_ | refine dB ?_ ?_) <;> intro _)
        all_goals simp_all
  · have ht : takesF m k nm = false := by simp [takesF,hn]
    rw [ht]
    simp only [resNames,List.mem_cons,List.not_mem_nil,or_false,not_or] at hn
    obtain ⟨n1,n2,n3,n4,n5⟩ := hn
    have m1 := eq_false n1
    have m2 := eq_false n2
    have m3 := eq_false n3
    have m4 := eq_false n4
    have m5 := eq_false n5
    have hbl := rblt_ok m hm nm
    generalize (decide (wordF nm = 0) && (decide (stF m nm < 0) && decide (rarF nm ≥ 0))) = b at hbl
    cases b
    all_goals
      refine call_pure (pf := p39) rfl rfl rfl rfl (by simp [PV.lowL,PV.low,strs_low,flds_low,scts_low,funs_low,h1,exs_low]) (by simp [PV.low,PV.lowL,strs_low,flds_low,scts_low,funs_low,h1,exs_low]) ?_ h
      show kQ E _ (endQ [⟨4,none⟩] _) .norm { lvl := 0,tmps := mk 36 [(0,.agg m.c),(1,.agg [.int .i64 k,.int .i64 o,.str nm,.int .i64 x,.vs fl (exs as)])],heap := [[]],defers := [] }
      repeat' first | ((with_reducible first | refine cS ?_ ?_ | refine oS ?_ ?_ | refine dS ?_ ?_) <;> intro _) | ((with_reducible refine kk ?_ ?_); · rfl) | (simp -implicitDefEqProofs (disch := first | omega | assumption) only [push_cast,simprocAttr,eqTop,eqShL,eqSh,K_seq,hbl,h1,binS,str_beq,m1,m2,m3,m4,m5]) | ((with_reducible first | refine cB ?_ ?_ | refine oB ?_ ?_ | refine dB ?_ ?_) <;> intro _)
    all_goals trace_state
end Go.VI.S
