/- Chapter 20: the law TypesOperators. -/
import Derived.Test.YtefikcjiblkmgaaGreatDoorF20zk
import Derived.Test.YtefikcjiblkmgaaGreatDoorX20
set_option maxRecDepth 100000
set_option linter.unusedSimpArgs false
set_option linter.unusedVariables false
set_option pp.deepTerms.threshold 4
set_option pp.deepTerms false
namespace Go.VI.S
open Go.VI
theorem lbin_ok (op : Int) (k1 o1 x1 : Int) (n1 : Str) (f1 : Fl) (as1 : List Ex) (k2 o2 x2 : Int) (n2 : Str) (f2 : Fl) (as2 : List Ex) (h : Heap) : doCall E (callR E) 19 [.int .i64 op,.agg [.int .i64 k1,.int .i64 o1,.str n1,.int .i64 x1,.vs f1 (exs as1)],.agg [.int .i64 k2,.int .i64 o2,.str n2,.int .i64 x2,.vs f2 (exs as2)]] h = some (.agg [.int .i64 6,.int .i64 op,.str [],.int .i64 0,.vs .clip (exs [.mk k1 o1 n1 x1 f1 as1,.mk k2 o2 n2 x2 f2 as2])],h) := by
  rw [show exs [.mk k1 o1 n1 x1 f1 as1,.mk k2 o2 n2 x2 f2 as2] = [.agg [.int .i64 k1,.int .i64 o1,.str n1,.int .i64 x1,.vs f1 (exs as1)],.agg [.int .i64 k2,.int .i64 o2,.str n2,.int .i64 x2,.vs f2 (exs as2)]] from by simp [exs,Ex.c]]
  refine call_pure (pf := p19) rfl rfl rfl rfl (by simp [PV.lowL,PV.low,exs_low]) (by simp [PV.low,PV.lowL,exs_low]) ?_ h
  show kQ E _ (endQ [⟨6,some (some 5)⟩] _) .norm { lvl := 0,tmps := mk 12 [(0,.int .i64 op),(1,.agg [.int .i64 k1,.int .i64 o1,.str n1,.int .i64 x1,.vs f1 (exs as1)]),(2,.agg [.int .i64 k2,.int .i64 o2,.str n2,.int .i64 x2,.vs f2 (exs as2)])],heap := [[none]],defers := [] }
  repeat' first | ((with_reducible first | refine cS ?_ ?_ | refine oS ?_ ?_ | refine dS ?_ ?_) <;> intro _) | ((with_reducible refine kk ?_ ?_); · rfl) | (simp -implicitDefEqProofs (disch := first | omega | assumption) only [push_cast,simprocAttr,eqTop,eqShL,eqSh,K_seq]) | ((with_reducible first | refine cB ?_ ?_ | refine oB ?_ ?_ | refine dB ?_ ?_) <;> intro _)
theorem eb_eq {a b : Bool} : eqTop .eb (.bool a) (.bool b) = some (a == b) := rfl
theorem exprF_bin {m : Mod} {sc : List Fld} {op x : Int} {nm : Str} {fl : Fl} {a b : Ex} : exprF m sc (.mk 6 op nm x fl [a,b]) = (if (exprF m sc a).2 ≠ 0 then (tz,(exprF m sc a).2) else if (exprF m sc b).2 ≠ 0 then (tz,(exprF m sc b).2) else binaryF op (exprF m sc a).1 (exprF m sc b).1) := by
  rw [exprF_eq (Or.inr rfl),takes_k (by decide)]
  by_cases ha : (exprF m sc a).2 = 0
  · by_cases hb : (exprF m sc b).2 = 0
    · simp [argsF,ha,hb,consX,nodeF]
    · simp [argsF,ha,hb,consX]
  · simp [argsF,ha]
def OpCase (t u : Ty) (e f : Int) (s q l : Ty × Int) : Prop :=
  (e ≠ 0 ∧ s = (tz,e) ∧ q = (tz,e) ∧ l = (tz,e)) ∨
  (e = 0 ∧ f ≠ 0 ∧ s = (tz,f) ∧ q = (tz,f) ∧ l = (tz,f)) ∨
  (e = 0 ∧ f = 0 ∧ t ≠ u ∧ s = (tz,12) ∧ q = (tz,12) ∧ l = (tz,12)) ∨
  (e = 0 ∧ f = 0 ∧ u = t ∧ t.kind ≠ 8 ∧ s = (t,0) ∧ q = (⟨4,[]⟩,0) ∧ l = (⟨4,[]⟩,0)) ∨
  (e = 0 ∧ f = 0 ∧ u = t ∧ t.kind ≠ 8 ∧ s = (t,0) ∧ q = (⟨4,[]⟩,0) ∧ l = (tz,12)) ∨
  (e = 0 ∧ f = 0 ∧ u = t ∧ t.kind ≠ 8 ∧ s = (tz,12) ∧ q = (⟨4,[]⟩,0) ∧ l = (tz,12)) ∨
  (e = 0 ∧ f = 0 ∧ u = t ∧ t.kind = 8 ∧ s = (tz,12) ∧ q = (tz,12) ∧ l = (tz,12))
theorem op_case {m : Mod} (hg : m.Gd) {sc : List Fld} (hs : ∀ f ∈ sc,f.ty.Gd) (a b : Ex) : OpCase (exprF m sc a).1 (exprF m sc b).1 (exprF m sc a).2 (exprF m sc b).2 (exprF m sc (.mk 6 1 [] 0 .clip [a,b])) (exprF m sc (.mk 6 15 [] 0 .clip [a,b])) (exprF m sc (.mk 6 11 [] 0 .clip [a,b])) := by
  have ga := exprF_good hg hs a
  rw [exprF_bin,exprF_bin,exprF_bin]
  generalize exprF m sc a = ra at *
  generalize exprF m sc b = rb at *
  obtain ⟨t,e⟩ := ra
  obtain ⟨u,f⟩ := rb
  simp only
  by_cases he : e = 0
  · by_cases hf : f = 0
    · rw [if_neg (by omega),if_neg (by omega),if_neg (by omega),if_neg (by omega),if_neg (by omega),if_neg (by omega)]
      by_cases htu : t = u
      · have hk := (ga he).2
        unfold Ty.Kn at hk
        simp only at hk
        have b1 : binaryF 1 t u = typedF (isNm t.kind) t := by simp [binaryF,htu]
        have b2 : binaryF 15 t u = typedF (isSc t.kind || isVc t.kind) ⟨4,[]⟩ := by simp [binaryF,htu]
        have b3 : binaryF 11 t u = typedF (isNm t.kind && !isVc t.kind) ⟨4,[]⟩ := by simp [binaryF,htu]
        rw [b1,b2,b3]
        have hk' : t.kind = 1 ∨ t.kind = 2 ∨ t.kind = 3 ∨ t.kind = 4 ∨ t.kind = 5 ∨ t.kind = 6 ∨ t.kind = 7 ∨ t.kind = 8 := by omega
        rcases hk' with k | k | k | k | k | k | k | k <;> simp [OpCase,typedF,isNm,isSc,isVc,k,he,hf,htu.symm, ← htu]
      · refine .inr (.inr (.inl ⟨he,hf,htu, ?_, ?_, ?_⟩)) <;> simp [binaryF,typedF,htu]
    · refine .inr (.inl ⟨he,hf, ?_, ?_, ?_⟩) <;> simp [he,hf]
  · refine .inl ⟨he, ?_, ?_, ?_⟩ <;> simp [he]
set_option maxHeartbeats 8000000 in
theorem law5_run (m : Mod) (hm : m.Ok) (hs : m.OkS) (fs : Fl) (sc : List Fld) (hsc : sc.length ≤ 1048576) (k1 o1 x1 : Int) (n1 : Str) (f1 : Fl) (as1 : List Ex) (k2 o2 x2 : Int) (n2 : Str) (f2 : Fl) (as2 : List Ex) (hkn : knownF m sc = true) (t u : Ty) (e f : Int) (s q l : Ty × Int) (hc : OpCase t u e f s q l)
    (ha : ∀ h,doCall E (callR E) 11 [.agg m.c,.vs fs (flds sc),.agg [.int .i64 k1,.int .i64 o1,.str n1,.int .i64 x1,.vs f1 (exs as1)]] h = some (encR (t,e),h))
    (hb : ∀ h,doCall E (callR E) 11 [.agg m.c,.vs fs (flds sc),.agg [.int .i64 k2,.int .i64 o2,.str n2,.int .i64 x2,.vs f2 (exs as2)]] h = some (encR (u,f),h))
    (hS : ∀ h,doCall E (callR E) 11 [.agg m.c,.vs fs (flds sc),.agg [.int .i64 6,.int .i64 1,.str [],.int .i64 0,.vs .clip (exs [.mk k1 o1 n1 x1 f1 as1,.mk k2 o2 n2 x2 f2 as2])]] h = some (encR s,h))
    (hQ : ∀ h,doCall E (callR E) 11 [.agg m.c,.vs fs (flds sc),.agg [.int .i64 6,.int .i64 15,.str [],.int .i64 0,.vs .clip (exs [.mk k1 o1 n1 x1 f1 as1,.mk k2 o2 n2 x2 f2 as2])]] h = some (encR q,h))
    (hL : ∀ h,doCall E (callR E) 11 [.agg m.c,.vs fs (flds sc),.agg [.int .i64 6,.int .i64 11,.str [],.int .i64 0,.vs .clip (exs [.mk k1 o1 n1 x1 f1 as1,.mk k2 o2 n2 x2 f2 as2])]] h = some (encR l,h)) (h : Heap) :
    doCall E (callR E) 5 [.agg m.c,.vs fs (flds sc),.agg [.int .i64 k1,.int .i64 o1,.str n1,.int .i64 x1,.vs f1 (exs as1),.int .i64 k2,.int .i64 o2,.str n2,.int .i64 x2,.vs f2 (exs as2)]] h = some (.bool true,h) := by
  have h1 := m.hm
  have hk := fun h => known_ok m hm hs fs sc hsc h
  refine call_pure (pf := p5) rfl rfl rfl rfl (by simp [PV.lowL,PV.low,strs_low,flds_low,scts_low,funs_low,exs_low,h1]) (by simp [PV.low,PV.lowL,strs_low,flds_low,scts_low,funs_low,exs_low,h1]) ?_ h
  show kQ E _ (endQ [⟨6,none⟩] _) .norm { lvl := 0,tmps := mk 150 [(0,.agg m.c),(1,.vs fs (flds sc)),(2,.agg [.int .i64 k1,.int .i64 o1,.str n1,.int .i64 x1,.vs f1 (exs as1),.int .i64 k2,.int .i64 o2,.str n2,.int .i64 x2,.vs f2 (exs as2)])],heap := [[none,none,none,none,none,none,none,none]],defers := [] }
  have pu11 : pureB E 11 = true := rfl
  have pu19 : pureB E 19 = true := rfl
  rcases hc with ⟨c1,c2,c3,c4⟩ | ⟨c1,c2,c3,c4,c5⟩ | ⟨c1,c2,c3,c4,c5,c6⟩ | ⟨c1,c2,c3,c4,c5,c6,c7⟩ | ⟨c1,c2,c3,c4,c5,c6,c7⟩ | ⟨c1,c2,c3,c4,c5,c6,c7⟩ | ⟨c1,c2,c3,c4,c5,c6,c7⟩
  · rw [c2] at hS; rw [c3] at hQ; rw [c4] at hL
    repeat' first | ((with_reducible first | refine cS ?_ ?_ | refine oS ?_ ?_ | refine dS ?_ ?_) <;> intro _) | ((with_reducible refine kk ?_ ?_); · rfl) | (simp -implicitDefEqProofs (disch := first | omega | assumption) only [push_cast,simprocAttr,K_seq,ty_eq,ty_eta,hk,hkn,ha,hb,hS,hQ,hL,lbin_ok,ex_ok,h1,c1,main_same,funs_same,scts_same,strs_same,sts_same,exs_same,flds_same,stabG,stabS,same_agg,same_ip,same_int,same_bool,same_str,same_vs,same_sl,same_ptr,sameL_nil,sameL_cons]) | ((with_reducible first | refine cB ?_ ?_ | refine oB ?_ ?_ | refine dB ?_ ?_) <;> intro _) | with_reducible refine optD_chk ?_ ?_ | with_reducible refine chkQ_out (by decide) ?_ | with_reducible refine chkQ_in' (by decide) ?_ ?_ | with_reducible exact chkQ_end | with_reducible refine stab1_eq ?_ | with_reducible refine optQ_some' ?_
  · rw [c3] at hS; rw [c4] at hQ; rw [c5] at hL; rw [c1] at ha
    repeat' first | ((with_reducible first | refine cS ?_ ?_ | refine oS ?_ ?_ | refine dS ?_ ?_) <;> intro _) | ((with_reducible refine kk ?_ ?_); · rfl) | (simp -implicitDefEqProofs (disch := first | omega | assumption) only [push_cast,simprocAttr,K_seq,ty_eq,ty_eta,hk,hkn,ha,hb,hS,hQ,hL,lbin_ok,ex_ok,h1,c2,main_same,funs_same,scts_same,strs_same,sts_same,exs_same,flds_same,stabG,stabS,same_agg,same_ip,same_int,same_bool,same_str,same_vs,same_sl,same_ptr,sameL_nil,sameL_cons]) | ((with_reducible first | refine cB ?_ ?_ | refine oB ?_ ?_ | refine dB ?_ ?_) <;> intro _) | with_reducible refine optD_chk ?_ ?_ | with_reducible refine chkQ_out (by decide) ?_ | with_reducible refine chkQ_in' (by decide) ?_ ?_ | with_reducible exact chkQ_end | with_reducible refine stab1_eq ?_ | with_reducible refine optQ_some' ?_
  · rw [c4] at hS; rw [c5] at hQ; rw [c6] at hL; rw [c1] at ha; rw [c2] at hb
    repeat' first | ((with_reducible first | refine cS ?_ ?_ | refine oS ?_ ?_ | refine dS ?_ ?_) <;> intro _) | ((with_reducible refine kk ?_ ?_); · rfl) | (simp -implicitDefEqProofs (disch := first | omega | assumption) only [push_cast,simprocAttr,K_seq,ty_eq,ty_eta,hk,hkn,ha,hb,hS,hQ,hL,lbin_ok,ex_ok,h1,c3,main_same,funs_same,scts_same,strs_same,sts_same,exs_same,flds_same,stabG,stabS,same_agg,same_ip,same_int,same_bool,same_str,same_vs,same_sl,same_ptr,sameL_nil,sameL_cons]) | ((with_reducible first | refine cB ?_ ?_ | refine oB ?_ ?_ | refine dB ?_ ?_) <;> intro _) | with_reducible refine optD_chk ?_ ?_ | with_reducible refine chkQ_out (by decide) ?_ | with_reducible refine chkQ_in' (by decide) ?_ ?_ | with_reducible exact chkQ_end | with_reducible refine stab1_eq ?_ | with_reducible refine optQ_some' ?_
  all_goals
    rw [c5] at hS; rw [c6] at hQ; rw [c7] at hL; rw [c1] at ha; rw [c2,c3] at hb
    repeat' first | ((with_reducible first | refine cS ?_ ?_ | refine oS ?_ ?_ | refine dS ?_ ?_) <;> intro _) | ((with_reducible refine kk ?_ ?_); · rfl) | (simp -implicitDefEqProofs (disch := first | omega | assumption) only [push_cast,simprocAttr,K_seq,ty_eq,ty_eta,hk,hkn,ha,hb,hS,hQ,hL,lbin_ok,ex_ok,h1,c4,eb_eq,main_same,funs_same,scts_same,strs_same,sts_same,exs_same,flds_same,stabG,stabS,same_agg,same_ip,same_int,same_bool,same_str,same_vs,same_sl,same_ptr,sameL_nil,sameL_cons]) | ((with_reducible first | refine cB ?_ ?_ | refine oB ?_ ?_ | refine dB ?_ ?_) <;> intro _) | with_reducible refine optD_chk ?_ ?_ | with_reducible refine chkQ_out (by decide) ?_ | with_reducible refine chkQ_in' (by decide) ?_ ?_ | with_reducible exact chkQ_end | with_reducible refine stab1_eq ?_ | with_reducible refine optQ_some' ?_
set_option maxHeartbeats 2000000 in
theorem law5 (m : Mod) (hm : m.Ok) (hs : m.OkS) (fs : Fl) (sc : List Fld) (hsc : sc.length ≤ 1048576) (a b : Ex) (hb : a.size + b.size ≤ 1048575) (h : Heap) : doCall E (callR E) 5 [.agg m.c,.vs fs (flds sc),.agg (a.c ++ b.c)] h = some (.bool true,h) := by
  obtain ⟨k1,o1,n1,x1,f1,as1⟩ := a
  obtain ⟨k2,o2,n2,x2,f2,as2⟩ := b
  rw [show (Ex.mk k1 o1 n1 x1 f1 as1).c ++ (Ex.mk k2 o2 n2 x2 f2 as2).c = [.int .i64 k1,.int .i64 o1,.str n1,.int .i64 x1,.vs f1 (exs as1),.int .i64 k2,.int .i64 o2,.str n2,.int .i64 x2,.vs f2 (exs as2)] from by simp [Ex.c]]
  cases hkn : knownF m sc
  · have h1 := m.hm
    have hk := fun h => known_ok m hm hs fs sc hsc h
    refine call_pure (pf := p5) rfl rfl rfl rfl (by simp [PV.lowL,PV.low,strs_low,flds_low,scts_low,funs_low,exs_low,h1]) (by simp [PV.low,PV.lowL,strs_low,flds_low,scts_low,funs_low,exs_low,h1]) ?_ h
    show kQ E _ (endQ [⟨6,none⟩] _) .norm { lvl := 0,tmps := mk 150 [(0,.agg m.c),(1,.vs fs (flds sc)),(2,.agg [.int .i64 k1,.int .i64 o1,.str n1,.int .i64 x1,.vs f1 (exs as1),.int .i64 k2,.int .i64 o2,.str n2,.int .i64 x2,.vs f2 (exs as2)])],heap := [[none,none,none,none,none,none,none,none]],defers := [] }
    have pu11 : pureB E 11 = true := rfl
    have pu19 : pureB E 19 = true := rfl
    repeat' first | ((with_reducible first | refine cS ?_ ?_ | refine oS ?_ ?_ | refine dS ?_ ?_) <;> intro _) | ((with_reducible refine kk ?_ ?_); · rfl) | (simp -implicitDefEqProofs (disch := first | omega | assumption) only [push_cast,simprocAttr,eqTop,eqShL,eqSh,K_seq,hk,hkn,ex_ok,h1]) | ((with_reducible first | refine cB ?_ ?_ | refine oB ?_ ?_ | refine dB ?_ ?_) <;> intro _)
  · obtain ⟨hg,hgs⟩ := known_gd hkn
    have hz : ∀ op : Int,(Ex.mk 6 op [] 0 .clip [.mk k1 o1 n1 x1 f1 as1,.mk k2 o2 n2 x2 f2 as2]).size ≤ 1048576 := by
      intro op
      simp only [Ex.size,sizeL] at hb ⊢
      omega
    have hx : ∀ (k o x : Int) (nm : Str) (fl : Fl) (as : List Ex),(Ex.mk k o nm x fl as).size ≤ 1048576 → ∀ h,doCall E (callR E) 11 [.agg m.c,.vs fs (flds sc),.agg [.int .i64 k,.int .i64 o,.str nm,.int .i64 x,.vs fl (exs as)]] h = some (encR (exprF m sc (.mk k o nm x fl as)),h) := by
      intro k o x nm fl as hz h
      have := exprtype_ok _ (.mk k o nm x fl as) (Nat.le_refl _) hz m hm fs sc hsc h
      rwa [show (Ex.mk k o nm x fl as).c = [.int .i64 k,.int .i64 o,.str nm,.int .i64 x,.vs fl (exs as)] from by simp [Ex.c]] at this
    exact law5_run m hm hs fs sc hsc k1 o1 x1 n1 f1 as1 k2 o2 x2 n2 f2 as2 hkn _ _ _ _ _ _ _ (op_case hg hgs (.mk k1 o1 n1 x1 f1 as1) (.mk k2 o2 n2 x2 f2 as2)) (hx _ _ _ _ _ _ (by omega)) (hx _ _ _ _ _ _ (by omega)) (hx _ _ _ _ _ _ (hz 1)) (hx _ _ _ _ _ _ (hz 15)) (hx _ _ _ _ _ _ (hz 11)) h
end Go.VI.S
