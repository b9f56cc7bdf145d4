/- Chapter 20: the reference's lists, members, arguments. -/
import Derived.Test.YtefikcjiblkmgaaGreatDoorF20t
set_option maxRecDepth 100000
set_option linter.unusedSimpArgs false
set_option linter.unusedVariables false
set_option pp.deepTerms.threshold 4
set_option pp.deepTerms false
namespace Go.VI.S
open Go.VI
theorem lst_loop {f : Fl} (l : List Str) (hb : l.length ≤ 1048576) (nm : Str) {ks : List KI} {Q : PEx → Fr → Prop}
    (hr : ∀ t,nm ∈ l → look t 4 = .bool true → kQ E ks Q .ret { lvl := 0,tmps := mk 18 t,heap := [[]],defers := [] })
    (hn : ∀ t,nm ∉ l → kQ E ks Q .norm { lvl := 0,tmps := mk 18 t,heap := [[]],defers := [] }) :
    ∀ (rest pre : List Str)  (t : List (Nat × PV)),l = pre ++ rest → ((nm ∈ rest) = (nm ∈ l)) →
      look t 0 = .vs f (strs l) → look t 1 = .str nm → look t 5 = .int .i64 pre.length →
      kQ E (.code p133l0 :: .blk 0 :: ks) Q .norm { lvl := 0,tmps := mk 18 t,heap := [[]],defers := [] } := by
  intro rest
  induction rest with
  | nil =>
    intro pre  t hl hi0 h0 h1 h5
    have e : l.length = pre.length := by rw [hl]; simp
    refine loopK' (c := p133l0) rfl ?_
    repeat' first | ((with_reducible first | refine cS ?_ ?_ | refine oS ?_ ?_ | refine dS ?_ ?_) <;> intro _) | ((with_reducible refine kk ?_ ?_); · rfl) | (simp -implicitDefEqProofs (disch := first | omega | assumption) only [push_cast,simprocAttr,eqTop,eqShL,eqSh,K_seq,h0,h1,h5,e,binS,str_beq]) | ((with_reducible first | refine cB ?_ ?_ | refine oB ?_ ?_ | refine dB ?_ ?_) <;> intro _)
    exact hn _ (by rw [← hi0]; simp)
  | cons s r ih =>
    intro pre  t hl hi0 h0 h1 h5
    have e : l.length = pre.length + r.length + 1 := by rw [hl]; simp; omega
    have hg : (strs l)[pre.length]? = some (.str s) := by rw [hl]; exact get_at _ _ _ _
    refine loopK' (c := p133l0) rfl ?_
    repeat' first | ((with_reducible first | refine cS ?_ ?_ | refine oS ?_ ?_ | refine dS ?_ ?_) <;> intro _) | ((with_reducible refine kk ?_ ?_); · rfl) | (simp -implicitDefEqProofs (disch := first | omega | assumption) only [push_cast,simprocAttr,eqTop,eqShL,eqSh,K_seq,h0,h1,h5,hg,binS,str_beq]) | ((with_reducible first | refine cB ?_ ?_ | refine oB ?_ ?_ | refine dB ?_ ?_) <;> intro _)
    · rename_i hp
      exact hr _ (by rw [← hi0,hp]; simp) (by simp [look])
    · rename_i hp
      refine ih (pre ++ [s])  _ (by simp [hl]) (by rw [← hi0]; simp [Ne.symm hp]) (by simp [look,look_keepL,h0]) (by simp [look,look_keepL,h1]) (by simp [look,look_keepL,h5])
theorem listed_ok (f : Fl) (l : List Str) (hb : l.length ≤ 1048576) (nm : Str) (h : Heap) : doCall E (callR E) 133 [.vs f (strs l),.str nm] h = some (.bool (decide (nm ∈ l)),h) := by
  refine call_pure (pf := p133) rfl rfl rfl rfl (by simp [PV.lowL,PV.low,strs_low]) (by simp [PV.low,PV.lowL,strs_low]) ?_ h
  show kQ E _ (endQ [⟨4,none⟩] _) .norm { lvl := 0,tmps := mk 18 [(0,.vs f (strs l)),(1,.str nm)],heap := [[]],defers := [] }
  repeat' first | ((with_reducible first | refine cS ?_ ?_ | refine oS ?_ ?_ | refine dS ?_ ?_) <;> intro _) | ((with_reducible refine kk ?_ ?_); · rfl) | (simp -implicitDefEqProofs (disch := first | omega | assumption) only [push_cast,simprocAttr,eqTop,eqShL,eqSh,K_seq]) | ((with_reducible first | refine cB ?_ ?_ | refine oB ?_ ?_ | refine dB ?_ ?_) <;> intro _)
  refine lst_loop (f := f) l hb nm ?_ ?_ l [] _ rfl rfl (by simp [look,look_keepL]) (by simp [look,look_keepL]) (by simp [look,look_keepL])
  · intro t hm h4
    repeat' first | ((with_reducible first | refine cS ?_ ?_ | refine oS ?_ ?_ | refine dS ?_ ?_) <;> intro _) | ((with_reducible refine kk ?_ ?_); · rfl) | (simp -implicitDefEqProofs (disch := first | omega | assumption) only [push_cast,simprocAttr,eqTop,eqShL,eqSh,K_seq,h4]) | ((with_reducible first | refine cB ?_ ?_ | refine oB ?_ ?_ | refine dB ?_ ?_) <;> intro _)
    all_goals simp [hm]
  · intro t hm
    repeat' first | ((with_reducible first | refine cS ?_ ?_ | refine oS ?_ ?_ | refine dS ?_ ?_) <;> intro _) | ((with_reducible refine kk ?_ ?_); · rfl) | (simp -implicitDefEqProofs (disch := first | omega | assumption) only [push_cast,simprocAttr,eqTop,eqShL,eqSh,K_seq]) | ((with_reducible first | refine cB ?_ ?_ | refine oB ?_ ?_ | refine dB ?_ ?_) <;> intro _)
    all_goals simp [hm]
theorem rmem_ok (m : Mod) (hm : m.Ok) (t : Ty) (nm : Str) (h : Heap) : doCall E (callR E) 44 [.agg m.c,.agg [.int .i64 t.kind,.str t.name],.str nm] h = some (encR (memF m t nm),h) := by
  have h1 := m.hm
  by_cases hv : 5 ≤ t.kind ∧ t.kind ≤ 7
  · have hk : t.kind = 5 ∨ t.kind = 6 ∨ t.kind = 7 := by omega
    have e0 : ∀ a : Str,(a = nm) = (nm = a) := fun a => propext eq_comm
    rcases hk with hk | hk | hk
    · rw [hk]
      refine call_pure (pf := p44) rfl rfl rfl rfl (by simp [PV.lowL,PV.low,strs_low,flds_low,scts_low,funs_low,h1]) (by simp [PV.low,PV.lowL,strs_low,flds_low,scts_low,funs_low,h1]) ?_ h
      show kQ E _ (endQ [⟨6,some (some 2)⟩,⟨7,none⟩] _) .norm { lvl := 0,tmps := mk 62 [(0,.agg m.c),(1,.agg [.int .i64 5,.str t.name]),(2,.str nm)],heap := [[none]],defers := [] }
      have hvv := rvc_ok 5 t.name
      repeat' first | ((with_reducible first | refine cS ?_ ?_ | refine oS ?_ ?_ | refine dS ?_ ?_) <;> intro _) | ((with_reducible refine kk ?_ ?_); · rfl) | (simp -implicitDefEqProofs (disch := first | omega | assumption) only [push_cast,simprocAttr,eqTop,eqShL,eqSh,K_seq,hvv,isVc,of_ok,binS,str_beq]) | ((with_reducible first | refine cB ?_ ?_ | refine oB ?_ ?_ | refine dB ?_ ?_) <;> intro _) | refine loopK' (c := p44l0) rfl ?_
      all_goals simp_all [memF,isVc,letters]
    · rw [hk]
      refine call_pure (pf := p44) rfl rfl rfl rfl (by simp [PV.lowL,PV.low,strs_low,flds_low,scts_low,funs_low,h1]) (by simp [PV.low,PV.lowL,strs_low,flds_low,scts_low,funs_low,h1]) ?_ h
      show kQ E _ (endQ [⟨6,some (some 2)⟩,⟨7,none⟩] _) .norm { lvl := 0,tmps := mk 62 [(0,.agg m.c),(1,.agg [.int .i64 6,.str t.name]),(2,.str nm)],heap := [[none]],defers := [] }
      have hvv := rvc_ok 6 t.name
      repeat' first | ((with_reducible first | refine cS ?_ ?_ | refine oS ?_ ?_ | refine dS ?_ ?_) <;> intro _) | ((with_reducible refine kk ?_ ?_); · rfl) | (simp -implicitDefEqProofs (disch := first | omega | assumption) only [push_cast,simprocAttr,eqTop,eqShL,eqSh,K_seq,hvv,isVc,of_ok,binS,str_beq]) | ((with_reducible first | refine cB ?_ ?_ | refine oB ?_ ?_ | refine dB ?_ ?_) <;> intro _) | refine loopK' (c := p44l0) rfl ?_
      all_goals simp_all [memF,isVc,letters]
    · rw [hk]
      refine call_pure (pf := p44) rfl rfl rfl rfl (by simp [PV.lowL,PV.low,strs_low,flds_low,scts_low,funs_low,h1]) (by simp [PV.low,PV.lowL,strs_low,flds_low,scts_low,funs_low,h1]) ?_ h
      show kQ E _ (endQ [⟨6,some (some 2)⟩,⟨7,none⟩] _) .norm { lvl := 0,tmps := mk 62 [(0,.agg m.c),(1,.agg [.int .i64 7,.str t.name]),(2,.str nm)],heap := [[none]],defers := [] }
      have hvv := rvc_ok 7 t.name
      repeat' first | ((with_reducible first | refine cS ?_ ?_ | refine oS ?_ ?_ | refine dS ?_ ?_) <;> intro _) | ((with_reducible refine kk ?_ ?_); · rfl) | (simp -implicitDefEqProofs (disch := first | omega | assumption) only [push_cast,simprocAttr,eqTop,eqShL,eqSh,K_seq,hvv,isVc,of_ok,binS,str_beq]) | ((with_reducible first | refine cB ?_ ?_ | refine oB ?_ ?_ | refine dB ?_ ?_) <;> intro _) | refine loopK' (c := p44l0) rfl ?_
      all_goals simp_all [memF,isVc,letters]
  · skip
    refine call_pure (pf := p44) rfl rfl rfl rfl (by simp [PV.lowL,PV.low,strs_low,flds_low,scts_low,funs_low,h1]) (by simp [PV.low,PV.lowL,strs_low,flds_low,scts_low,funs_low,h1]) ?_ h
    show kQ E _ (endQ [⟨6,some (some 2)⟩,⟨7,none⟩] _) .norm { lvl := 0,tmps := mk 62 [(0,.agg m.c),(1,.agg [.int .i64 t.kind,.str t.name]),(2,.str nm)],heap := [[none]],defers := [] }
    have h2 := stF_bd m t.name
    by_cases h8 : t.kind = 8
    · by_cases hs : stF m t.name < 0
      · repeat' first | ((with_reducible first | refine cS ?_ ?_ | refine oS ?_ ?_ | refine dS ?_ ?_) <;> intro _) | ((with_reducible refine kk ?_ ?_); · rfl) | (simp -implicitDefEqProofs (disch := first | omega | assumption) only [push_cast,simprocAttr,eqTop,eqShL,eqSh,K_seq,h1,rvc_ok,isVc,rfind_ok,hm]) | ((with_reducible first | refine cB ?_ ?_ | refine oB ?_ ?_ | refine dB ?_ ?_) <;> intro _)
        all_goals simp [memF,isVc, *]
      · obtain ⟨s,hmem,hg,hfs⟩ := scts_get (m := m) (j := stF m t.name) (by omega) (by omega)
        have hsl := hm.sf s hmem
        have h3 := fdF_bd s.fs nm
        by_cases hf : fdF s.fs nm < 0
        · repeat' first | ((with_reducible first | refine cS ?_ ?_ | refine oS ?_ ?_ | refine dS ?_ ?_) <;> intro _) | ((with_reducible refine kk ?_ ?_); · rfl) | (simp -implicitDefEqProofs (disch := first | omega | assumption) only [push_cast,simprocAttr,eqTop,eqShL,eqSh,K_seq,h1,rvc_ok,isVc,rfind_ok,hm,hg,rfidx_ok,hsl]) | ((with_reducible first | refine cB ?_ ?_ | refine oB ?_ ?_ | refine dB ?_ ?_) <;> intro _)
          all_goals simp [memF,isVc, *]
        · obtain ⟨f,hgf,hty⟩ := flds_get (l := s.fs) (j := fdF s.fs nm) (by omega) (by omega)
          repeat' first | ((with_reducible first | refine cS ?_ ?_ | refine oS ?_ ?_ | refine dS ?_ ?_) <;> intro _) | ((with_reducible refine kk ?_ ?_); · rfl) | (simp -implicitDefEqProofs (disch := first | omega | assumption) only [push_cast,simprocAttr,eqTop,eqShL,eqSh,K_seq,h1,rvc_ok,isVc,rfind_ok,hm,hg,rfidx_ok,hsl,hgf]) | ((with_reducible first | refine cB ?_ ?_ | refine oB ?_ ?_ | refine dB ?_ ?_) <;> intro _)
          all_goals simp [memF,isVc, *]
    · repeat' first | ((with_reducible first | refine cS ?_ ?_ | refine oS ?_ ?_ | refine dS ?_ ?_) <;> intro _) | ((with_reducible refine kk ?_ ?_); · rfl) | (simp -implicitDefEqProofs (disch := first | omega | assumption) only [push_cast,simprocAttr,eqTop,eqShL,eqSh,K_seq,h1,rvc_ok,isVc]) | ((with_reducible first | refine cB ?_ ?_ | refine oB ?_ ?_ | refine dB ?_ ?_) <;> intro _)
      all_goals simp [memF,isVc, *]
end Go.VI.S
