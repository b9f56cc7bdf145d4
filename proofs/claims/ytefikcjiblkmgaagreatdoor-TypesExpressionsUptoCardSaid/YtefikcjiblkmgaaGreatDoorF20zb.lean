/- Chapter 20: the reference's resources are the program's. -/
import Derived.Test.YtefikcjiblkmgaaGreatDoorF20za
set_option maxRecDepth 100000
set_option linter.unusedSimpArgs false
set_option linter.unusedVariables false
set_option pp.deepTerms.threshold 4
set_option pp.deepTerms false
namespace Go.VI.S
open Go.VI
theorem rres_ok (m : Mod) (hm : m.Ok) (hcl : ∀ f ∈ m.ins,f.ty.Cl) (fs : Fl) (sc : List Fld) (hsc : sc.length ≤ 1048576) (k o x : Int) (nm : Str) (hn : nm ∈ resNames) (fl : Fl) (as : List Ex) (ft : Fl) (ts : List Ty) (hl : ts.length = as.length) (hb : ts.length ≤ 1048576) (h : Heap) :
    doCall E (callR E) 94 [.agg m.c,.vs fs (flds sc),.agg [.int .i64 k,.int .i64 o,.str nm,.int .i64 x,.vs fl (exs as)],.vs ft (tys ts)] h = some (encR (resourceF m sc nm as ts),h) := by
  cases as with
  | nil =>
    have h1 := m.hm
    have hz : ts.length = 0 := by simpa using hl
    refine call_pure (pf := p94) rfl rfl rfl rfl (by simp [PV.lowL,PV.low,strs_low,flds_low,scts_low,funs_low,h1,exs_low,tys_low]) (by simp [PV.low,PV.lowL,strs_low,flds_low,scts_low,funs_low,h1,exs_low,tys_low]) ?_ h
    show kQ E _ (endQ [⟨8,some (some 2)⟩,⟨9,none⟩] _) .norm { lvl := 0,tmps := mk 167 [(0,.agg m.c),(1,.vs fs (flds sc)),(2,.agg [.int .i64 k,.int .i64 o,.str nm,.int .i64 x,.vs fl (exs [])]),(3,.vs ft (tys ts))],heap := [[none,none,none,none]],defers := [] }
    have pu45 : pureB E 45 = true := rfl
    have pu69 : pureB E 69 = true := rfl
    repeat' first | ((with_reducible first | refine cS ?_ ?_ | refine oS ?_ ?_ | refine dS ?_ ?_) <;> intro _) | ((with_reducible refine kk ?_ ?_); · rfl) | (simp -implicitDefEqProofs (disch := first | omega | assumption) only [push_cast,simprocAttr,eqTop,eqShL,eqSh,K_seq,tys_len,hz]) | ((with_reducible first | refine cB ?_ ?_ | refine oB ?_ ?_ | refine dB ?_ ?_) <;> intro _)
    simp [resourceF]
  | cons a r =>
    obtain ⟨k',o',nm',x',fl',as'⟩ := a
    have hz : ts.length = r.length + 1 := by simpa using hl
    by_cases hq : k' = 4 ∧ as'.length = 0
    · obtain ⟨rfl,hq0⟩ := hq
      have hq1 := List.eq_nil_of_length_eq_zero hq0
      subst hq1
      simp only [resNames,List.mem_cons,List.not_mem_nil,or_false] at hn
      rcases hn with hn | hn | hn | hn | hn
      all_goals subst hn
      · have e : resourceF m sc [115,97,109,112,108,101] (.mk 4 o' nm' x' fl' [] :: r) ts = (if sidxF m.ts nm' < 0 then (tz,13) else valF (ts.drop 1) [⟨5,[]⟩,⟨1,[]⟩] ⟨7,[]⟩) := by simp [resourceF,Ex.kind,Ex.name,Ex.args]
        rw [rr_sample m hm fs sc k o x fl o' nm' x' fl' r ft ts hz hb h,e]
        by_cases hmem : nm' ∈ m.ts
        · rw [if_pos hmem,if_neg (c := sidxF m.ts nm' < 0) (by rw [sidx_not]; simpa using hmem)]
          by_cases hl3 : ts.length = 3
          · obtain ⟨a,b,c,rfl⟩ := len3 hl3
            simp [valF,Bool.decide_and]
          · rw [if_neg (c := ts.length = 3) hl3,valF,if_pos (by simp; omega)]
        · rw [if_neg (c := nm' ∈ m.ts) hmem,if_pos (c := sidxF m.ts nm' < 0) (by rw [sidx_not]; exact hmem)]
      · have e : resourceF m sc [102,101,116,99,104] (.mk 4 o' nm' x' fl' [] :: r) ts = (if sidxF m.ts nm' < 0 then (tz,13) else valF (ts.drop 1) [⟨3,[]⟩,⟨3,[]⟩,⟨3,[]⟩] ⟨7,[]⟩) := by simp [resourceF,Ex.kind,Ex.name,Ex.args]
        rw [rr_fetch m hm fs sc k o x fl o' nm' x' fl' r ft ts hz hb h,e]
        by_cases hmem : nm' ∈ m.ts
        · rw [if_pos hmem,if_neg (c := sidxF m.ts nm' < 0) (by rw [sidx_not]; simpa using hmem)]
          by_cases hl3 : ts.length = 4
          · obtain ⟨a,b,c,d,rfl⟩ := len4 hl3
            simp [valF,Bool.decide_and]
          · rw [if_neg (c := ts.length = 4) hl3,valF,if_pos (by simp; omega)]
        · rw [if_neg (c := nm' ∈ m.ts) hmem,if_pos (c := sidxF m.ts nm' < 0) (by rw [sidx_not]; exact hmem)]
      · have e : resourceF m sc [108,111,97,100] (.mk 4 o' nm' x' fl' [] :: r) ts = (if sidxF m.bs nm' < 0 then (tz,13) else valF (ts.drop 1) [⟨3,[]⟩] ⟨3,[]⟩) := by simp [resourceF,Ex.kind,Ex.name,Ex.args]
        rw [rr_load m hm fs sc k o x fl o' nm' x' fl' r ft ts hz hb h,e]
        by_cases hmem : nm' ∈ m.bs
        · rw [if_pos hmem,if_neg (c := sidxF m.bs nm' < 0) (by rw [sidx_not]; simpa using hmem)]
          by_cases hl3 : ts.length = 2
          · obtain ⟨a,b,rfl⟩ := len2 hl3
            simp [valF,Bool.decide_and]
          · rw [if_neg (c := ts.length = 2) hl3,valF,if_pos (by simp; omega)]
        · rw [if_neg (c := nm' ∈ m.bs) hmem,if_pos (c := sidxF m.bs nm' < 0) (by rw [sidx_not]; exact hmem)]
      · have e := resF_dd (m := m) (sc := sc) (nm := [100,100,120]) (nm' := nm') (k' := 4) (o' := o') (x' := x') (fl' := fl') (as' := []) (r := r) (ts := ts) (by simp) rfl rfl
        rw [rr_ddx m hm fs sc hsc k o x fl o' nm' x' fl' r ft ts hz hb h,e]
        simp only [last_fd,veF_cl (tyAt_cl hcl _)]
        by_cases h1 : ts.length = 1
        · rw [if_neg (c := ts.length ≠ 1) (by omega),if_neg (c := ts.length > 1) (by omega)]
        · rw [if_pos (c := ts.length ≠ 1) h1,if_pos (c := ts.length > 1) (by omega)]
      · have e := resF_dd (m := m) (sc := sc) (nm := [100,100,121]) (nm' := nm') (k' := 4) (o' := o') (x' := x') (fl' := fl') (as' := []) (r := r) (ts := ts) (by simp) rfl rfl
        rw [rr_ddy m hm fs sc hsc k o x fl o' nm' x' fl' r ft ts hz hb h,e]
        simp only [last_fd,veF_cl (tyAt_cl hcl _)]
        by_cases h1 : ts.length = 1
        · rw [if_neg (c := ts.length ≠ 1) (by omega),if_neg (c := ts.length > 1) (by omega)]
        · rw [if_pos (c := ts.length ≠ 1) h1,if_pos (c := ts.length > 1) (by omega)]
    · rw [rres_bad m hm fs sc k o x nm hn fl k' o' nm' x' fl' as' r hq ft ts hz hb h]
      have : resourceF m sc nm (.mk k' o' nm' x' fl' as' :: r) ts = (tz,13) := by
        unfold resourceF
        exact if_pos (c := (Ex.mk k' o' nm' x' fl' as').kind ≠ 4 ∨ (Ex.mk k' o' nm' x' fl' as').args.length > 0) (by show k' ≠ 4 ∨ as'.length > 0; by_cases hk : k' = 4; exact .inr (Nat.pos_of_ne_zero fun h => hq ⟨hk,h⟩); exact .inl hk)
      rw [this]
end Go.VI.S
