/- Chapter 20: the reference's constructors. -/
import Derived.Test.YtefikcjiblkmgaaGreatDoorF20v
set_option maxRecDepth 100000
set_option linter.unusedSimpArgs false
set_option linter.unusedVariables false
set_option pp.deepTerms.threshold 4
set_option pp.deepTerms false
namespace Go.VI.S
open Go.VI
def rgood (ts : List Ty) : Bool := ts.all fun t => decide (t = ⟨1,[]⟩) || veF t
set_option maxHeartbeats 2000000 in
theorem rcon_loop (m : Mod) (hm : m.Ok) {f : Fl} (ts : List Ty) (hb : ts.length ≤ 1048576) (k fin : Int) (fok : Bool) {o2 : Option Ob} {ks : List KI} {Q : PEx → Fr → Prop}
    (hn : ∀ t,look t 3 = .ip m.c → look t 6 = .ptr (0,0) 1 0 0 → look t 8 = .ptr (0,1) 1 0 0 → look t 9 = .int .i64 fin → look t 10 = .bool fok → kQ E ks Q .norm { lvl := 0,tmps := mk 116 t,heap := [[cell0,some (.mem [.agg [.int .i64 k,.str []]] 1 false 2),o2]],defers := [] }) :
    ∀ (rest pre : List Ty) (n : Int) (ok : Bool) (t : List (Nat × PV)),ts = pre ++ rest → (conN m rest n = fin) → (0 ≤ n) → (n ≤ 1000) → ((ok && rgood rest) = fok) →
      look t 2 = .vs f (tys ts) → look t 3 = .ip m.c → look t 6 = .ptr (0,0) 1 0 0 → look t 8 = .ptr (0,1) 1 0 0 → look t 9 = .int .i64 n → look t 10 = .bool ok → look t 11 = .int .i64 pre.length →
      kQ E (.code p92l0 :: .blk 0 :: ks) Q .norm { lvl := 0,tmps := mk 116 t,heap := [[cell0,some (.mem [.agg [.int .i64 k,.str []]] 1 false 2),o2]],defers := [] } := by
  intro rest
  have h1' := m.hm
  have pu45 : pureB E 45 = true := rfl
  have pu90 : pureB E 90 = true := rfl
  have pu23 : pureB E 23 = true := rfl
  induction rest with
  | nil =>
    intro pre n ok t hl hi0 hi1 hi2 hi3 h2 h3 h6 h8 h9 h10 h11
    have e : ts.length = pre.length := by rw [hl]; simp
    refine loopK' (c := p92l0) rfl ?_
    repeat' first | ((with_reducible first | refine cS ?_ ?_ | refine oS ?_ ?_ | refine dS ?_ ?_) <;> intro _) | ((with_reducible refine kk ?_ ?_); · rfl) | (simp -implicitDefEqProofs (disch := first | omega | assumption) only [push_cast,simprocAttr,eqTop,eqShL,eqSh,K_seq,h2,h3,h6,h8,h9,h10,h11,e,tys_len]) | ((with_reducible first | refine cB ?_ ?_ | refine oB ?_ ?_ | refine dB ?_ ?_) <;> intro _)
    simp only [conN] at hi0
    simp [rgood] at hi3
    subst hi0
    subst hi3
    exact hn _ (by simp [look,look_keepL,h3]) (by simp [look,look_keepL,h6]) (by simp [look,look_keepL,h8]) (by simp [look,look_keepL,h9]) (by simp [look,look_keepL,h10])
  | cons s r ih =>
    intro pre n ok t hl hi0 hi1 hi2 hi3 h2 h3 h6 h8 h9 h10 h11
    have e : ts.length = pre.length + r.length + 1 := by rw [hl]; simp; omega
    have hg : (tys ts)[pre.length]? = some (.agg [.int .i64 s.kind,.str s.name]) := by rw [hl]; exact get_at _ _ _ _
    have hc := compF_bd m s.kind s.name
    cases ok
    · refine loopK' (c := p92l0) rfl ?_
      repeat' first | ((with_reducible first | refine cS ?_ ?_ | refine oS ?_ ?_ | refine dS ?_ ?_) <;> intro _) | ((with_reducible refine kk ?_ ?_); · rfl) | (simp -implicitDefEqProofs (disch := first | omega | assumption) only [push_cast,simprocAttr,eqTop,eqShL,eqSh,K_seq,h2,h3,h6,h8,h9,h10,h11,hg,tys_len,rcomp_ok,hm,h1']) | ((with_reducible first | refine cB ?_ ?_ | refine oB ?_ ?_ | refine dB ?_ ?_) <;> intro _)
      refine ih (pre ++ [s]) (if n + compF m s.kind s.name < 1000 then n + compF m s.kind s.name else 1000) false _ (by simp [hl]) (by rw [← hi0]; rfl) (by split <;> omega) (by split <;> omega) (by rw [← hi3]; rfl) (by simp [look,look_keepL,h2]) (by simp [look,look_keepL,h3]) (by simp [look,look_keepL,h6]) (by simp [look,look_keepL,h8]) (by simp [look,look_keepL,h9]) (by simp [look,look_keepL,h10]) (by simp [look,look_keepL,h11])
    · by_cases hfx : s = ⟨1,[]⟩
      · have pt := eq_true hfx
        have hgd : rgood (s :: r) = rgood r := by simp [rgood,hfx]
        refine loopK' (c := p92l0) rfl ?_
        repeat' first | ((with_reducible first | refine cS ?_ ?_ | refine oS ?_ ?_ | refine dS ?_ ?_) <;> intro _) | ((with_reducible refine kk ?_ ?_); · rfl) | (simp -implicitDefEqProofs (disch := first | omega | assumption) only [push_cast,simprocAttr,K_seq,ty_eq,ty_eta,pt,of_ok,rvec_ok,h2,h3,h6,h8,h9,h10,h11,hg,tys_len,rcomp_ok,hm,h1']) | ((with_reducible first | refine cB ?_ ?_ | refine oB ?_ ?_ | refine dB ?_ ?_) <;> intro _)
        refine ih (pre ++ [s]) (if n + compF m s.kind s.name < 1000 then n + compF m s.kind s.name else 1000) true _ (by simp [hl]) (by rw [← hi0]; rfl) (by split <;> omega) (by split <;> omega) (by rw [← hi3,hgd]) (by simp [look,look_keepL,h2]) (by simp [look,look_keepL,h3]) (by simp [look,look_keepL,h6]) (by simp [look,look_keepL,h8]) (by simp [look,look_keepL,h9]) (by simp [look,look_keepL,h10]) (by simp [look,look_keepL,h11])
      · have pt := eq_false hfx
        have hgd : rgood (s :: r) = (veF s && rgood r) := by simp [rgood,hfx]
        refine loopK' (c := p92l0) rfl ?_
        repeat' first | ((with_reducible first | refine cS ?_ ?_ | refine oS ?_ ?_ | refine dS ?_ ?_) <;> intro _) | ((with_reducible refine kk ?_ ?_); · rfl) | (simp -implicitDefEqProofs (disch := first | omega | assumption) only [push_cast,simprocAttr,K_seq,ty_eq,ty_eta,pt,of_ok,rvec_ok,h2,h3,h6,h8,h9,h10,h11,hg,tys_len,rcomp_ok,hm,h1']) | ((with_reducible first | refine cB ?_ ?_ | refine oB ?_ ?_ | refine dB ?_ ?_) <;> intro _)
        refine ih (pre ++ [s]) (if n + compF m s.kind s.name < 1000 then n + compF m s.kind s.name else 1000) (veF s) _ (by simp [hl]) (by rw [← hi0]; rfl) (by split <;> omega) (by split <;> omega) (by rw [← hi3,hgd]; simp) (by simp [look,look_keepL,h2]) (by simp [look,look_keepL,h3]) (by simp [look,look_keepL,h6]) (by simp [look,look_keepL,h8]) (by simp [look,look_keepL,h9]) (by simp [look,look_keepL,h10]) (by simp [look,look_keepL,h11])
def rconOk (k : Int) (a : Ty) : Bool := if k = 1 then decide (a = ⟨3,[]⟩) || (decide (a = ⟨2,[]⟩) || decide (a = ⟨4,[]⟩)) else if k = 2 then decide (a = ⟨1,[]⟩) else if k = 3 then decide (a = ⟨1,[]⟩) || decide (a = ⟨4,[]⟩) else decide (a = ⟨3,[]⟩)
def rconF (m : Mod) (k : Int) (ts : List Ty) : Ty × Int :=
  if isVc k then (if conN m ts 0 ≠ plainF k then (tz,11) else typedF (rgood ts) ⟨k,[]⟩)
  else match ts with
    | [t] => typedF (rconOk k t) ⟨k,[]⟩
    | _ => (tz,11)
theorem comp_vc {m : Mod} {k : Int} {n : Str} (h : isVc k = true) : compF m k n = plainF k := by
  have := isVc_bd h
  unfold compF compG
  rw [if_neg (by omega)]
set_option maxHeartbeats 4000000 in
theorem rcon_ok (m : Mod) (hm : m.Ok) (k : Int) (hk : 1 ≤ k ∧ k ≤ 7) (f : Fl) (ts : List Ty) (hb : ts.length ≤ 1048576) (h : Heap) : doCall E (callR E) 92 [.agg m.c,.int .i64 k,.vs f (tys ts)] h = some (encR (rconF m k ts),h) := by
  have h1 := m.hm
  by_cases hv : isVc k = true
  · skip
    refine call_pure (pf := p92) rfl rfl rfl rfl (by simp [PV.lowL,PV.low,strs_low,flds_low,scts_low,funs_low,h1,tys_low]) (by simp [PV.low,PV.lowL,strs_low,flds_low,scts_low,funs_low,h1,tys_low]) ?_ h
    show kQ E _ (endQ [⟨6,some (some 2)⟩,⟨7,none⟩] _) .norm { lvl := 0,tmps := mk 116 [(0,.agg m.c),(1,.int .i64 k),(2,.vs f (tys ts))],heap := [[none,none,none]],defers := [] }
    have pu45 : pureB E 45 = true := rfl
    have hcv := comp_vc (m := m) (n := []) hv
    repeat' first | ((with_reducible first | refine cS ?_ ?_ | refine oS ?_ ?_ | refine dS ?_ ?_) <;> intro _) | ((with_reducible refine kk ?_ ?_); · rfl) | (simp -implicitDefEqProofs (disch := first | omega | assumption) only [push_cast,simprocAttr,eqTop,eqShL,eqSh,K_seq,of_ok,rvc_ok,hv,tys_len]) | ((with_reducible first | refine cB ?_ ?_ | refine oB ?_ ?_ | refine dB ?_ ?_) <;> intro _)
    with_reducible refine rcon_loop m hm (f := f) ts hb k (conN m ts 0) (rgood ts) ?_ ts [] 0 true _ rfl rfl (by omega) (by omega) rfl (by simp [look,look_keepL]) (by simp [look,look_keepL]) (by simp [look,look_keepL]) (by simp [look,look_keepL]) (by simp [look,look_keepL]) (by simp [look,look_keepL]) (by simp [look,look_keepL])
    intro t k3 k6 k8 k9 k10
    by_cases hc : conN m ts 0 = plainF k
    · repeat' first | ((with_reducible first | refine cS ?_ ?_ | refine oS ?_ ?_ | refine dS ?_ ?_) <;> intro _) | ((with_reducible refine kk ?_ ?_); · rfl) | (simp -implicitDefEqProofs (disch := first | omega | assumption) only [push_cast,simprocAttr,eqTop,eqShL,eqSh,K_seq,k3,k6,k8,k9,k10,rcomp_ok,hm,hcv,hc,h1,rwhen_ok]) | ((with_reducible first | refine cB ?_ ?_ | refine oB ?_ ?_ | refine dB ?_ ?_) <;> intro _)
      simp [rconF,hv,hc]
    · repeat' first | ((with_reducible first | refine cS ?_ ?_ | refine oS ?_ ?_ | refine dS ?_ ?_) <;> intro _) | ((with_reducible refine kk ?_ ?_); · rfl) | (simp -implicitDefEqProofs (disch := first | omega | assumption) only [push_cast,simprocAttr,eqTop,eqShL,eqSh,K_seq,k3,k6,k8,k9,k10,rcomp_ok,hm,hcv,hc,h1,rwhen_ok]) | ((with_reducible first | refine cB ?_ ?_ | refine oB ?_ ?_ | refine dB ?_ ?_) <;> intro _)
      simp [rconF,hv,hc]
  · have hv' : isVc k = false := by simpa using hv
    have hk4 : k = 1 ∨ k = 2 ∨ k = 3 ∨ k = 4 := by simp [isVc] at hv; omega
    match ts,hb with
    | [],hb =>
      refine call_pure (pf := p92) rfl rfl rfl rfl (by simp [PV.lowL,PV.low,strs_low,flds_low,scts_low,funs_low,h1,tys_low]) (by simp [PV.low,PV.lowL,strs_low,flds_low,scts_low,funs_low,h1,tys_low]) ?_ h
      show kQ E _ (endQ [⟨6,some (some 2)⟩,⟨7,none⟩] _) .norm { lvl := 0,tmps := mk 116 [(0,.agg m.c),(1,.int .i64 k),(2,.vs f (tys []))],heap := [[none,none,none]],defers := [] }
      have pu45 : pureB E 45 = true := rfl
      repeat' first | ((with_reducible first | refine cS ?_ ?_ | refine oS ?_ ?_ | refine dS ?_ ?_) <;> intro _) | ((with_reducible refine kk ?_ ?_); · rfl) | (simp -implicitDefEqProofs (disch := first | omega | assumption) only [push_cast,simprocAttr,eqTop,eqShL,eqSh,K_seq,of_ok,rvc_ok,hv',tys_len]) | ((with_reducible first | refine cB ?_ ?_ | refine oB ?_ ?_ | refine dB ?_ ?_) <;> intro _)
      simp [rconF,hv']
    | [a],hb =>
      rcases hk4 with hk | hk | hk | hk
      all_goals subst hk
      · skip
        refine call_pure (pf := p92) rfl rfl rfl rfl (by simp [PV.lowL,PV.low,strs_low,flds_low,scts_low,funs_low,h1,tys_low]) (by simp [PV.low,PV.lowL,strs_low,flds_low,scts_low,funs_low,h1,tys_low]) ?_ h
        show kQ E _ (endQ [⟨6,some (some 2)⟩,⟨7,none⟩] _) .norm { lvl := 0,tmps := mk 116 [(0,.agg m.c),(1,.int .i64 1),(2,.vs f (tys [a]))],heap := [[none,none,none]],defers := [] }
        have pu45 : pureB E 45 = true := rfl
        repeat' first | ((with_reducible first | refine cS ?_ ?_ | refine oS ?_ ?_ | refine dS ?_ ?_) <;> intro _) | ((with_reducible refine kk ?_ ?_); · rfl) | (simp -implicitDefEqProofs (disch := first | omega | assumption) only [push_cast,simprocAttr,K_seq,ty_eq,ty_eta,of_ok,rvc_ok,hv',tys1,rwhen_ok]) | ((with_reducible first | refine cB ?_ ?_ | refine oB ?_ ?_ | refine dB ?_ ?_) <;> intro _)
        all_goals simp_all [rconF,rconOk]
      · skip
        refine call_pure (pf := p92) rfl rfl rfl rfl (by simp [PV.lowL,PV.low,strs_low,flds_low,scts_low,funs_low,h1,tys_low]) (by simp [PV.low,PV.lowL,strs_low,flds_low,scts_low,funs_low,h1,tys_low]) ?_ h
        show kQ E _ (endQ [⟨6,some (some 2)⟩,⟨7,none⟩] _) .norm { lvl := 0,tmps := mk 116 [(0,.agg m.c),(1,.int .i64 2),(2,.vs f (tys [a]))],heap := [[none,none,none]],defers := [] }
        have pu45 : pureB E 45 = true := rfl
        repeat' first | ((with_reducible first | refine cS ?_ ?_ | refine oS ?_ ?_ | refine dS ?_ ?_) <;> intro _) | ((with_reducible refine kk ?_ ?_); · rfl) | (simp -implicitDefEqProofs (disch := first | omega | assumption) only [push_cast,simprocAttr,K_seq,ty_eq,ty_eta,of_ok,rvc_ok,hv',tys1,rwhen_ok]) | ((with_reducible first | refine cB ?_ ?_ | refine oB ?_ ?_ | refine dB ?_ ?_) <;> intro _)
        all_goals simp_all [rconF,rconOk]
      · skip
        refine call_pure (pf := p92) rfl rfl rfl rfl (by simp [PV.lowL,PV.low,strs_low,flds_low,scts_low,funs_low,h1,tys_low]) (by simp [PV.low,PV.lowL,strs_low,flds_low,scts_low,funs_low,h1,tys_low]) ?_ h
        show kQ E _ (endQ [⟨6,some (some 2)⟩,⟨7,none⟩] _) .norm { lvl := 0,tmps := mk 116 [(0,.agg m.c),(1,.int .i64 3),(2,.vs f (tys [a]))],heap := [[none,none,none]],defers := [] }
        have pu45 : pureB E 45 = true := rfl
        repeat' first | ((with_reducible first | refine cS ?_ ?_ | refine oS ?_ ?_ | refine dS ?_ ?_) <;> intro _) | ((with_reducible refine kk ?_ ?_); · rfl) | (simp -implicitDefEqProofs (disch := first | omega | assumption) only [push_cast,simprocAttr,K_seq,ty_eq,ty_eta,of_ok,rvc_ok,hv',tys1,rwhen_ok]) | ((with_reducible first | refine cB ?_ ?_ | refine oB ?_ ?_ | refine dB ?_ ?_) <;> intro _)
        all_goals simp_all [rconF,rconOk]
      · skip
        refine call_pure (pf := p92) rfl rfl rfl rfl (by simp [PV.lowL,PV.low,strs_low,flds_low,scts_low,funs_low,h1,tys_low]) (by simp [PV.low,PV.lowL,strs_low,flds_low,scts_low,funs_low,h1,tys_low]) ?_ h
        show kQ E _ (endQ [⟨6,some (some 2)⟩,⟨7,none⟩] _) .norm { lvl := 0,tmps := mk 116 [(0,.agg m.c),(1,.int .i64 4),(2,.vs f (tys [a]))],heap := [[none,none,none]],defers := [] }
        have pu45 : pureB E 45 = true := rfl
        repeat' first | ((with_reducible first | refine cS ?_ ?_ | refine oS ?_ ?_ | refine dS ?_ ?_) <;> intro _) | ((with_reducible refine kk ?_ ?_); · rfl) | (simp -implicitDefEqProofs (disch := first | omega | assumption) only [push_cast,simprocAttr,K_seq,ty_eq,ty_eta,of_ok,rvc_ok,hv',tys1,rwhen_ok]) | ((with_reducible first | refine cB ?_ ?_ | refine oB ?_ ?_ | refine dB ?_ ?_) <;> intro _)
        all_goals simp_all [rconF,rconOk]
    | a :: b :: r,hb =>
      have hl : (tys (a :: b :: r)).length ≠ 1 := by simp [tys]
      refine call_pure (pf := p92) rfl rfl rfl rfl (by simp [PV.lowL,PV.low,strs_low,flds_low,scts_low,funs_low,h1,tys_low]) (by simp [PV.low,PV.lowL,strs_low,flds_low,scts_low,funs_low,h1,tys_low]) ?_ h
      show kQ E _ (endQ [⟨6,some (some 2)⟩,⟨7,none⟩] _) .norm { lvl := 0,tmps := mk 116 [(0,.agg m.c),(1,.int .i64 k),(2,.vs f (tys (a :: b :: r)))],heap := [[none,none,none]],defers := [] }
      have pu45 : pureB E 45 = true := rfl
      repeat' first | ((with_reducible first | refine cS ?_ ?_ | refine oS ?_ ?_ | refine dS ?_ ?_) <;> intro _) | ((with_reducible refine kk ?_ ?_); · rfl) | (simp -implicitDefEqProofs (disch := first | omega | assumption) only [push_cast,simprocAttr,eqTop,eqShL,eqSh,K_seq,of_ok,rvc_ok,hv',hl,tys_len]) | ((with_reducible first | refine cB ?_ ?_ | refine oB ?_ ?_ | refine dB ?_ ?_) <;> intro _)
      all_goals simp [rconF,hv']
theorem rcon_cl {m : Mod} {k : Int} (hk : 1 ≤ k ∧ k ≤ 7) {ts : List Ty} (h : ∀ t ∈ ts,t.Cl) : rconF m k ts = constructF m k ts := by
  unfold rconF constructF
  by_cases hv : isVc k = true
  · rw [if_pos hv,if_pos hv]
    have : rgood ts = !conBad ts := by
      clear hv
      induction ts with
      | nil => rfl
      | cons t r ih =>
        have ih := ih fun x hx => h x (List.mem_cons_of_mem _ hx)
        simp only [rgood,conBad,List.all_cons,List.any_cons] at ih ⊢
        rw [ih,veF_cl (h t (List.mem_cons_self ..))]
        cases decide (t = ⟨1,[]⟩) <;> cases isVc t.kind <;> simp
    rw [this]
    cases conBad ts <;> simp [typedF]
  · rw [if_neg hv,if_neg hv]
    match ts,h with
    | [],_ => rfl
    | [t],h =>
      have hc := h t (List.mem_cons_self ..)
      simp only [rconOk,conOk,ty_cl hc (k := 1) (by decide),ty_cl hc (k := 2) (by decide),ty_cl hc (k := 3) (by decide),ty_cl hc (k := 4) (by decide),Bool.decide_or]
    | a :: b :: r,_ => rfl
end Go.VI.S
