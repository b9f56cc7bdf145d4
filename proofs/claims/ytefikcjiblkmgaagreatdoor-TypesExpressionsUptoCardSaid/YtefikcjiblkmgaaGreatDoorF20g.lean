/- Chapter 20: components, totals, offsets; the law TypesSizes, evaluated. -/
import Derived.Test.YtefikcjiblkmgaaGreatDoorF20f
set_option maxRecDepth 100000
set_option linter.unusedSimpArgs false
set_option linter.unusedVariables false
set_option pp.deepTerms.threshold 4
set_option pp.deepTerms false
namespace Go.VI.S
open Go.VI
theorem comp_ok (m : Mod) (hm : m.Ok) (k : Int) (nm : Str) (h : Heap) : doCall E (callR E) 22 [.agg m.c,.agg [.int .i64 k,.str nm]] h = some (.int .i64 (compF m k nm),h) := by
  have h1 := m.hm
  have h2 := stF_bd m nm
  have h3 := sizF_len m
  have h4 := hm.ss
  refine call_pure (pf := p22) rfl rfl rfl rfl (by simp [PV.lowL,PV.low,strs_low,flds_low,scts_low,funs_low,h1]) (by simp [PV.low,PV.lowL,strs_low,flds_low,scts_low,funs_low,h1]) ?_ h
  show kQ E _ (endQ [⟨4,none⟩] _) .norm { lvl := 0,tmps := mk 22 [(0,.agg m.c),(1,.agg [.int .i64 k,.str nm])],heap := [[]],defers := [] }
  repeat' first | ((with_reducible first | refine cS ?_ ?_ | refine oS ?_ ?_ | refine dS ?_ ?_) <;> intro _) | ((with_reducible refine kk ?_ ?_); · rfl) | (simp -implicitDefEqProofs (disch := first | omega | assumption) only [push_cast,simprocAttr,eqTop,eqShL,eqSh,K_seq,h1,ints_low,plain_ok,find_ok,sizes_ok,ints_len,ints_get,hm]) | ((with_reducible first | refine cB ?_ ?_ | refine oB ?_ ?_ | refine dB ?_ ?_) <;> intro _)
  all_goals (unfold compF compG; congr 1; (repeat' split) <;> first | omega | rfl)
theorem rcomp_ok (m : Mod) (hm : m.Ok) (k : Int) (nm : Str) (h : Heap) : doCall E (callR E) 23 [.agg m.c,.agg [.int .i64 k,.str nm]] h = some (.int .i64 (compF m k nm),h) := by
  have h1 := m.hm
  have h3 := sizF_len m
  have h4 := hm.ss
  refine call_pure (pf := p23) rfl rfl rfl rfl (by simp [PV.lowL,PV.low,strs_low,flds_low,scts_low,funs_low,h1]) (by simp [PV.low,PV.lowL,strs_low,flds_low,scts_low,funs_low,h1]) ?_ h
  show kQ E _ (endQ [⟨4,none⟩] _) .norm { lvl := 0,tmps := mk 10 [(0,.agg m.c),(1,.agg [.int .i64 k,.str nm])],heap := [[]],defers := [] }
  have pu73 : pureB E 73 = true := rfl
  repeat' first | ((with_reducible first | refine cS ?_ ?_ | refine oS ?_ ?_ | refine dS ?_ ?_) <;> intro _) | ((with_reducible refine kk ?_ ?_); · rfl) | (simp -implicitDefEqProofs (disch := first | omega | assumption) only [push_cast,simprocAttr,eqTop,eqShL,eqSh,K_seq,h1,ints_low,rsizes_ok,sized_ok,hm]) | ((with_reducible first | refine cB ?_ ?_ | refine oB ?_ ?_ | refine dB ?_ ?_) <;> intro _)
  rfl
theorem compF_bd (m : Mod) (k : Int) (nm : Str) : 0 ≤ compF m k nm ∧ compF m k nm ≤ 1000 := compG_bd (sizF_small m) k nm
theorem total_loop (m : Mod) (hm : m.Ok) {fl : Fl} (fs : List Fld) (hf : fs.length ≤ 1048576) (fin : Int) {ks : List KI} {Q : PEx → Fr → Prop}
    (hn : ∀ t ob,look t 5 = .int .i64 fin → kQ E ks Q .norm { lvl := 0,tmps := mk 23 t,heap := [[ob]],defers := [] }) :
    ∀ (rest pre : List Fld) (n : Int) (ob : Option Ob) (t : List (Nat × PV)),fs = pre ++ rest → sumG m (sizF m) rest n = fin → 0 ≤ n → n ≤ 1000 →
      look t 2 = .ip m.c → look t 5 = .int .i64 n → look t 8 = .vs fl (flds fs) → look t 9 = .int .i64 fs.length → look t 10 = .int .i64 pre.length →
      kQ E (.code p24l0 :: .blk 0 :: ks) Q .norm { lvl := 0,tmps := mk 23 t,heap := [[ob]],defers := [] } := by
  intro rest
  have h1' := m.hm
  induction rest with
  | nil =>
    intro pre n ob t hl hi h0n h1n h2 h5 h8 h9 h10
    have e : fs.length = pre.length := by rw [hl]; simp
    refine loopK' (c := p24l0) rfl ?_
    repeat' first | ((with_reducible first | refine cS ?_ ?_ | refine oS ?_ ?_ | refine dS ?_ ?_) <;> intro _) | ((with_reducible refine kk ?_ ?_); · rfl) | (simp -implicitDefEqProofs (disch := first | omega | assumption) only [push_cast,simprocAttr,eqTop,eqShL,eqSh,K_seq,h2,h5,h8,h9,h10,e]) | ((with_reducible first | refine cB ?_ ?_ | refine oB ?_ ?_ | refine dB ?_ ?_) <;> intro _)
    simp only [sumG] at hi
    subst hi
    exact hn _ _ (by simp [look,look_keepL,h5])
  | cons s r ih =>
    intro pre n ob t hl hi h0n h1n h2 h5 h8 h9 h10
    have e : fs.length = pre.length + r.length + 1 := by rw [hl]; simp; omega
    have hg : (flds fs)[pre.length]? = some (.agg [.str s.name,.int .i64 s.ty.kind,.str s.ty.name]) := by rw [hl]; exact get_at _ _ _ _
    have hc := compF_bd m s.ty.kind s.ty.name
    refine loopK' (c := p24l0) rfl ?_
    repeat' first | ((with_reducible first | refine cS ?_ ?_ | refine oS ?_ ?_ | refine dS ?_ ?_) <;> intro _) | ((with_reducible refine kk ?_ ?_); · rfl) | (simp -implicitDefEqProofs (disch := first | omega | assumption) only [push_cast,simprocAttr,eqTop,eqShL,eqSh,K_seq,h2,h5,h8,h9,h10,hg,comp_ok,hm,h1']) | ((with_reducible first | refine cB ?_ ?_ | refine oB ?_ ?_ | refine dB ?_ ?_) <;> intro _)
    refine ih (pre ++ [s]) (if n + compF m s.ty.kind s.ty.name < 1000 then n + compF m s.ty.kind s.ty.name else 1000) _ _ (by simp [hl]) (by rw [← hi]; rfl) (by split <;> omega) (by split <;> omega) (by simp [look,look_keepL,h2]) (by simp [look,look_keepL]) (by simp [look,look_keepL,h8]) (by simp [look,look_keepL,h9]) (by simp [look,look_keepL])
theorem total_ok (m : Mod) (hm : m.Ok) (fl : Fl) (fs : List Fld) (hf : fs.length ≤ 1048576) (h : Heap) : doCall E (callR E) 24 [.agg m.c,.vs fl (flds fs)] h = some (.int .i64 (totF m fs),h) := by
  have h1 := m.hm
  refine call_pure (pf := p24) rfl rfl rfl rfl (by simp [PV.lowL,PV.low,strs_low,flds_low,scts_low,funs_low,h1]) (by simp [PV.low,PV.lowL,strs_low,flds_low,scts_low,funs_low,h1]) ?_ h
  show kQ E _ (endQ [⟨4,none⟩] _) .norm { lvl := 0,tmps := mk 23 [(0,.agg m.c),(1,.vs fl (flds fs))],heap := [[none]],defers := [] }
  repeat' first | ((with_reducible first | refine cS ?_ ?_ | refine oS ?_ ?_ | refine dS ?_ ?_) <;> intro _) | ((with_reducible refine kk ?_ ?_); · rfl) | (simp -implicitDefEqProofs (disch := first | omega | assumption) only [push_cast,simprocAttr,eqTop,eqShL,eqSh,K_seq,h1]) | ((with_reducible first | refine cB ?_ ?_ | refine oB ?_ ?_ | refine dB ?_ ?_) <;> intro _)
  refine total_loop m hm (fl := fl) fs hf (totF m fs) ?_ fs [] 0 _ _ rfl rfl (by omega) (by omega) (by simp [look,look_keepL]) (by simp [look,look_keepL]) (by simp [look,look_keepL]) (by simp [look,look_keepL]) (by simp [look,look_keepL])
  intro t ob h5
  repeat' first | ((with_reducible first | refine cS ?_ ?_ | refine oS ?_ ?_ | refine dS ?_ ?_) <;> intro _) | ((with_reducible refine kk ?_ ?_); · rfl) | (simp -implicitDefEqProofs (disch := first | omega | assumption) only [push_cast,simprocAttr,eqTop,eqShL,eqSh,K_seq,h5]) | ((with_reducible first | refine cB ?_ ?_ | refine oB ?_ ?_ | refine dB ?_ ?_) <;> intro _)
theorem rtotal_ok (m : Mod) (hm : m.Ok) (fl : Fl) (fs : List Fld) (hf : fs.length ≤ 1048576) (h : Heap) : doCall E (callR E) 25 [.agg m.c,.vs fl (flds fs)] h = some (.int .i64 (totF m fs),h) := by
  have h1 := m.hm
  have h3 := sizF_len m
  have h4 := hm.ss
  have h5 := sizF_small m
  refine call_pure (pf := p25) rfl rfl rfl rfl (by simp [PV.lowL,PV.low,strs_low,flds_low,scts_low,funs_low,h1]) (by simp [PV.low,PV.lowL,strs_low,flds_low,scts_low,funs_low,h1]) ?_ h
  show kQ E _ (endQ [⟨4,none⟩] _) .norm { lvl := 0,tmps := mk 10 [(0,.agg m.c),(1,.vs fl (flds fs))],heap := [[]],defers := [] }
  have pu73 : pureB E 73 = true := rfl
  repeat' first | ((with_reducible first | refine cS ?_ ?_ | refine oS ?_ ?_ | refine dS ?_ ?_) <;> intro _) | ((with_reducible refine kk ?_ ?_); · rfl) | (simp -implicitDefEqProofs (disch := first | omega | assumption) only [push_cast,simprocAttr,eqTop,eqShL,eqSh,K_seq,h1,ints_low,rsizes_ok,sum_ok,hm,hf,h5]) | ((with_reducible first | refine cB ?_ ?_ | refine oB ?_ ?_ | refine dB ?_ ?_) <;> intro _)
  rfl
def tyAt (l : List Fld) (i : Int) : Ty := ((l[i.toNat]?).map Fld.ty).getD ⟨0,[]⟩
theorem flds_get {l : List Fld} {j : Int} (h0 : 0 ≤ j) (h1 : j < l.length) : ∃ f : Fld,(flds l)[j.toNat]? = some (.agg [.str f.name,.int .i64 f.ty.kind,.str f.ty.name]) ∧ tyAt l j = f.ty := by
  have : j.toNat < l.length := by omega
  exact ⟨l[j.toNat],by simp [flds,List.getElem?_eq_getElem this],by simp [tyAt,List.getElem?_eq_getElem this]⟩
def offF (m : Mod) (l : List Fld) (nm : Str) : PV :=
  if fdF l nm < 0 then .tuple [.int .i64 0,.agg [.int .i64 0,.str []],.bool false]
  else .tuple [.int .i64 (totF m (l.take (fdF l nm).toNat)),.agg [.int .i64 (tyAt l (fdF l nm)).kind,.str (tyAt l (fdF l nm)).name],.bool true]
theorem offF_low (m : Mod) (l : List Fld) (nm : Str) : (offF m l nm).low 0 = true := by unfold offF; split <;> rfl
theorem fdF_bd (l : List Fld) (nm : Str) : -1 ≤ fdF l nm ∧ fdF l nm < l.length := ⟨(idxF_bd _ _).1,(idxF_bd _ _).2.1⟩
theorem flds_take {l : List Fld} {n : Nat} : (flds l).take n = flds (l.take n) := by simp [flds,List.map_take]
theorem flds_head {l : List Fld} : headSz 3 (flds l) = true := by
  cases l with
  | nil => rfl
  | cons f l => rfl
theorem off_ok (m : Mod) (hm : m.Ok) (fl : Fl) (l : List Fld) (hf : l.length ≤ 1048576) (nm : Str) (h : Heap) : doCall E (callR E) 20 [.agg m.c,.vs fl (flds l),.str nm] h = some (offF m l nm,h) := by
  have h1 := m.hm
  have h2 := fdF_bd l nm
  refine call_pure (pf := p20) rfl rfl rfl rfl (by simp [PV.lowL,PV.low,strs_low,flds_low,scts_low,funs_low,h1,offF_low]) (by simp [PV.low,PV.lowL,strs_low,flds_low,scts_low,funs_low,h1,offF_low]) ?_ h
  show kQ E _ (endQ [⟨6,none⟩,⟨7,some (some 2)⟩,⟨8,none⟩] _) .norm { lvl := 0,tmps := mk 26 [(0,.agg m.c),(1,.vs fl (flds l)),(2,.str nm)],heap := [[none]],defers := [] }
  have pu24 : pureB E 24 = true := rfl
  unfold offF
  by_cases hn : fdF l nm < 0
  · rw [if_pos hn]
    repeat' first | ((with_reducible first | refine cS ?_ ?_ | refine oS ?_ ?_ | refine dS ?_ ?_) <;> intro _) | ((with_reducible refine kk ?_ ?_); · rfl) | (simp -implicitDefEqProofs (disch := first | omega | assumption) only [push_cast,simprocAttr,eqTop,eqShL,eqSh,K_seq,h1,fidx_ok]) | ((with_reducible first | refine cB ?_ ?_ | refine oB ?_ ?_ | refine dB ?_ ?_) <;> intro _)
    all_goals first | rfl | omega
  · rw [if_neg hn]
    obtain ⟨f,hg,hty⟩ := flds_get (l := l) (j := fdF l nm) (by omega) (by omega)
    rw [hty]
    have hl2 : (l.take (fdF l nm).toNat).length ≤ 1048576 := by simp; omega
    repeat' first | ((with_reducible first | refine cS ?_ ?_ | refine oS ?_ ?_ | refine dS ?_ ?_) <;> intro _) | ((with_reducible refine kk ?_ ?_); · rfl) | (simp -implicitDefEqProofs (disch := first | omega | assumption) only [push_cast,simprocAttr,eqTop,eqShL,eqSh,K_seq,h1,fidx_ok,boundsE,bound,flds_head,flds_take,hg,total_ok,hm,hl2]) | ((with_reducible first | refine cB ?_ ?_ | refine oB ?_ ?_ | refine dB ?_ ?_) <;> intro _)
    all_goals first | rfl | omega
end Go.VI.S
