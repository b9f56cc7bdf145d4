/- Chapter 20: the reference's ExprType. -/
import Derived.Test.YtefikcjiblkmgaaGreatDoorF20zf
set_option maxRecDepth 100000
set_option linter.unusedSimpArgs false
set_option linter.unusedVariables false
set_option pp.deepTerms.threshold 4
set_option pp.deepTerms false
namespace Go.VI.S
open Go.VI
theorem rcall_own (m : Mod) (hm : m.Ok) (hcl : ∀ f ∈ m.ins,f.ty.Cl) (fs : Fl) (sc : List Fld) (hsc : sc.length ≤ 1048576) (o x : Int) (nm : Str) (fl : Fl) (xs : List Ex) (ts : List Ty) (htc : ∀ t ∈ ts,t.Cl) (hl : ts.length = xs.length) (hb : ts.length ≤ 1048576) (g : Nat) (c0 o2 o3 o4 o5 : Option Ob) :
    doCall E (callR E) 46 [.agg m.c,.vs fs (flds sc),.agg [.int .i64 7,.int .i64 o,.str nm,.int .i64 x,.vs fl (exs xs)],.sl (0,1) g 0 ts.length] [[c0,some (.mem (tys ts) g true 2),o2,o3,o4,o5]] = some (encR (callF m sc nm xs ts),[[c0,some (.mem (tys ts) g true 2),o2,o3,o4,o5]]) := by
  have h1 := m.hm
  refine call_snap (pf := p46) (args' := [.agg m.c,.vs fs (flds sc),.agg [.int .i64 7,.int .i64 o,.str nm,.int .i64 x,.vs fl (exs xs)],.vs .any (tys ts)]) rfl rfl (by simp [PV.lowL,PV.low,strs_low,flds_low,scts_low,funs_low,h1,exs_low]; rfl) ?_ (by simp [PV.lowL,PV.low,strs_low,flds_low,scts_low,funs_low,h1,exs_low,tys_low]) (rcall_ok m hm hcl fs sc hsc o x nm fl xs .any ts htc hl hb _) rfl
  simp [mapO,snap,PV.low,PV.lowL,strs_low,flds_low,scts_low,funs_low,h1,exs_low,hget,tys_len,tys_all]
theorem opF_neg (k : Int) : opF k = -2 ∨ opF k = -1 ∨ 0 ≤ opF k := by
  unfold opF; (repeat' split) <;> omega
theorem rext_start (m : Mod) (hm : m.Ok) {fs : Fl} (sc : List Fld) (k o x : Int) (nm : Str) (fl : Fl) (as : List Ex) (has : as.length ≤ 1048576) (hrec : ∀ a ∈ as, ∀ h,doCall E (callR E) 12 [.agg m.c,.vs fs (flds sc),.agg a.c] h = some (encR (exprF m sc a),h)) (fin : Except Int (List Ty)) {o2 o4 o5 : Option Ob} {ks : List KI} {Q : PEx → Fr → Prop}
    (hr : ∀ t (acc : List Ty) (g : Nat) (o3 : Option Ob) c,fin = .error c → look t 6 = .ptr (0,0) 1 0 0 → look t 7 = .int .i64 c → kQ E ks Q .ret { lvl := 0,tmps := mk 159 t,heap := [[cell0,some (.mem (tys acc) g true 2),o2,o3,o4,o5]],defers := [] })
    (hn : ∀ t (acc : List Ty) (g : Nat) (o3 : Option Ob),fin = .ok acc → look t 1 = .vs fs (flds sc) → look t 3 = .ip m.c → look t 5 = .ip [.int .i64 k,.int .i64 o,.str nm,.int .i64 x,.vs fl (exs as)] → look t 6 = .ptr (0,0) 1 0 0 → look t 9 = .sl (0,1) g 0 acc.length → kQ E ks Q .norm { lvl := 0,tmps := mk 159 t,heap := [[cell0,some (.mem (tys acc) g true 2),o2,o3,o4,o5]],defers := [] }) :
    ∀ (g : Nat) (o3 : Option Ob) (t : List (Nat × PV)),argsF m sc (takesF m k nm) as = fin → look t 1 = .vs fs (flds sc) → look t 3 = .ip m.c → look t 5 = .ip [.int .i64 k,.int .i64 o,.str nm,.int .i64 x,.vs fl (exs as)] → look t 6 = .ptr (0,0) 1 0 0 → look t 9 = .sl (0,1) g 0 0 → look t 10 = .int .i64 0 →
      kQ E (.code p12l0 :: .blk 0 :: ks) Q .norm { lvl := 0,tmps := mk 159 t,heap := [[cell0,some (.mem [] g true 2),o2,o3,o4,o5]],defers := [] } := by
  intro g o3 t hf h1 h3 h5 h6 h9 h10
  exact rext_loop m hm sc k o x nm fl as has hrec fin hr hn as [] [] g o3 t rfl (by simpa [appX_nil] using hf) rfl h1 h3 h5 h6 h9 h10
set_option maxHeartbeats 4000000 in
theorem rex1 (m : Mod) (hm : m.Ok) (hg : m.Gd) (fs : Fl) (sc : List Fld) (hsc : sc.length ≤ 1048576) (hs : ∀ f ∈ sc,f.ty.Gd) (o x : Int) (nm : Str) (fl : Fl) (as : List Ex) (has : as.length ≤ 1048576) (ha : (as.length : Int) = 0) (hrec : ∀ a ∈ as, ∀ h,doCall E (callR E) 12 [.agg m.c,.vs fs (flds sc),.agg a.c] h = some (encR (exprF m sc a),h)) (h : Heap) :
    doCall E (callR E) 12 [.agg m.c,.vs fs (flds sc),.agg [.int .i64 1,.int .i64 o,.str nm,.int .i64 x,.vs fl (exs as)]] h = some (encR (match argsF m sc (takesF m 1 nm) as with | .error c => (tz,c) | .ok ts => nodeF m sc 1 o nm x as ts),h) := by
  have h1 := m.hm
  have e0 : opF 1 = 0 := rfl
  have htk : takesF m 1 nm = false := takes_k (by decide)
  have han : ∀ ts,argsF m sc (takesF m 1 nm) as = .ok ts → ∀ t ∈ ts,t.Gd := by rw [htk]; exact args_gd hg hs as
  refine call_pure (pf := p12) rfl rfl rfl rfl (by simp [PV.lowL,PV.low,strs_low,flds_low,scts_low,funs_low,h1,exs_low]) (by simp [PV.low,PV.lowL,strs_low,flds_low,scts_low,funs_low,h1,exs_low]) ?_ h
  show kQ E _ (endQ [⟨6,some (some 2)⟩,⟨7,none⟩] _) .norm { lvl := 0,tmps := mk 159 [(0,.agg m.c),(1,.vs fs (flds sc)),(2,.agg [.int .i64 1,.int .i64 o,.str nm,.int .i64 x,.vs fl (exs as)])],heap := [[none,none,none,none,none,none]],defers := [] }
  have pu45 : pureB E 45 = true := rfl
  repeat' first | ((with_reducible first | refine cS ?_ ?_ | refine oS ?_ ?_ | refine dS ?_ ?_) <;> intro _) | ((with_reducible refine kk ?_ ?_); · rfl) | (simp -implicitDefEqProofs (disch := first | omega | assumption) only [push_cast,simprocAttr,eqTop,eqShL,eqSh,K_seq,op_ok,e0,ha]) | ((with_reducible first | refine cB ?_ ?_ | refine oB ?_ ?_ | refine dB ?_ ?_) <;> intro _)
  with_reducible refine rext_start m hm (fs := fs) sc 1 o x nm fl as has hrec (argsF m sc (takesF m 1 nm) as) ?_ ?_ _ _ _ rfl ?_ ?_ ?_ ?_ ?_ ?_
  all_goals first
    | (simp [look,look_keepL]; done)
    | skip
  · intro t acc g o3 c hc k6 k7
    rw [hc]
    repeat' first | ((with_reducible first | refine cS ?_ ?_ | refine oS ?_ ?_ | refine dS ?_ ?_) <;> intro _) | ((with_reducible refine kk ?_ ?_); · rfl) | (simp -implicitDefEqProofs (disch := first | omega | assumption) only [push_cast,simprocAttr,eqTop,eqShL,eqSh,K_seq,k6,k7]) | ((with_reducible first | refine cB ?_ ?_ | refine oB ?_ ?_ | refine dB ?_ ?_) <;> intro _)
  · intro t ts g o3 hf k1 k3 k5 k6 k9
    have hlen := args_len hf
    have hgd := han _ hf
    rw [hf]
    repeat' first | ((with_reducible first | refine cS ?_ ?_ | refine oS ?_ ?_ | refine dS ?_ ?_) <;> intro _) | ((with_reducible refine kk ?_ ?_); · rfl) | (simp -implicitDefEqProofs (disch := first | omega | assumption) only [push_cast,simprocAttr,eqTop,eqShL,eqSh,K_seq,k1,k3,k5,k6,k9,h1,hm,hsc,rlit_ok]) | ((with_reducible first | refine cB ?_ ?_ | refine oB ?_ ?_ | refine dB ?_ ?_) <;> intro _)
    all_goals simp [nodeF]
set_option maxHeartbeats 4000000 in
theorem rex2 (m : Mod) (hm : m.Ok) (hg : m.Gd) (fs : Fl) (sc : List Fld) (hsc : sc.length ≤ 1048576) (hs : ∀ f ∈ sc,f.ty.Gd) (o x : Int) (nm : Str) (fl : Fl) (as : List Ex) (has : as.length ≤ 1048576) (ha : (as.length : Int) = 0) (hrec : ∀ a ∈ as, ∀ h,doCall E (callR E) 12 [.agg m.c,.vs fs (flds sc),.agg a.c] h = some (encR (exprF m sc a),h)) (h : Heap) :
    doCall E (callR E) 12 [.agg m.c,.vs fs (flds sc),.agg [.int .i64 2,.int .i64 o,.str nm,.int .i64 x,.vs fl (exs as)]] h = some (encR (match argsF m sc (takesF m 2 nm) as with | .error c => (tz,c) | .ok ts => nodeF m sc 2 o nm x as ts),h) := by
  have h1 := m.hm
  have e0 : opF 2 = 0 := rfl
  have htk : takesF m 2 nm = false := takes_k (by decide)
  have han : ∀ ts,argsF m sc (takesF m 2 nm) as = .ok ts → ∀ t ∈ ts,t.Gd := by rw [htk]; exact args_gd hg hs as
  refine call_pure (pf := p12) rfl rfl rfl rfl (by simp [PV.lowL,PV.low,strs_low,flds_low,scts_low,funs_low,h1,exs_low]) (by simp [PV.low,PV.lowL,strs_low,flds_low,scts_low,funs_low,h1,exs_low]) ?_ h
  show kQ E _ (endQ [⟨6,some (some 2)⟩,⟨7,none⟩] _) .norm { lvl := 0,tmps := mk 159 [(0,.agg m.c),(1,.vs fs (flds sc)),(2,.agg [.int .i64 2,.int .i64 o,.str nm,.int .i64 x,.vs fl (exs as)])],heap := [[none,none,none,none,none,none]],defers := [] }
  have pu45 : pureB E 45 = true := rfl
  repeat' first | ((with_reducible first | refine cS ?_ ?_ | refine oS ?_ ?_ | refine dS ?_ ?_) <;> intro _) | ((with_reducible refine kk ?_ ?_); · rfl) | (simp -implicitDefEqProofs (disch := first | omega | assumption) only [push_cast,simprocAttr,eqTop,eqShL,eqSh,K_seq,op_ok,e0,ha]) | ((with_reducible first | refine cB ?_ ?_ | refine oB ?_ ?_ | refine dB ?_ ?_) <;> intro _)
  with_reducible refine rext_start m hm (fs := fs) sc 2 o x nm fl as has hrec (argsF m sc (takesF m 2 nm) as) ?_ ?_ _ _ _ rfl ?_ ?_ ?_ ?_ ?_ ?_
  all_goals first
    | (simp [look,look_keepL]; done)
    | skip
  · intro t acc g o3 c hc k6 k7
    rw [hc]
    repeat' first | ((with_reducible first | refine cS ?_ ?_ | refine oS ?_ ?_ | refine dS ?_ ?_) <;> intro _) | ((with_reducible refine kk ?_ ?_); · rfl) | (simp -implicitDefEqProofs (disch := first | omega | assumption) only [push_cast,simprocAttr,eqTop,eqShL,eqSh,K_seq,k6,k7]) | ((with_reducible first | refine cB ?_ ?_ | refine oB ?_ ?_ | refine dB ?_ ?_) <;> intro _)
  · intro t ts g o3 hf k1 k3 k5 k6 k9
    have hlen := args_len hf
    have hgd := han _ hf
    rw [hf]
    repeat' first | ((with_reducible first | refine cS ?_ ?_ | refine oS ?_ ?_ | refine dS ?_ ?_) <;> intro _) | ((with_reducible refine kk ?_ ?_); · rfl) | (simp -implicitDefEqProofs (disch := first | omega | assumption) only [push_cast,simprocAttr,eqTop,eqShL,eqSh,K_seq,k1,k3,k5,k6,k9,h1,hm,hsc,rlit_ok]) | ((with_reducible first | refine cB ?_ ?_ | refine oB ?_ ?_ | refine dB ?_ ?_) <;> intro _)
    all_goals simp [nodeF]
set_option maxHeartbeats 4000000 in
theorem rex3 (m : Mod) (hm : m.Ok) (hg : m.Gd) (fs : Fl) (sc : List Fld) (hsc : sc.length ≤ 1048576) (hs : ∀ f ∈ sc,f.ty.Gd) (o x : Int) (nm : Str) (fl : Fl) (as : List Ex) (has : as.length ≤ 1048576) (ha : (as.length : Int) = 0) (hrec : ∀ a ∈ as, ∀ h,doCall E (callR E) 12 [.agg m.c,.vs fs (flds sc),.agg a.c] h = some (encR (exprF m sc a),h)) (h : Heap) :
    doCall E (callR E) 12 [.agg m.c,.vs fs (flds sc),.agg [.int .i64 3,.int .i64 o,.str nm,.int .i64 x,.vs fl (exs as)]] h = some (encR (match argsF m sc (takesF m 3 nm) as with | .error c => (tz,c) | .ok ts => nodeF m sc 3 o nm x as ts),h) := by
  have h1 := m.hm
  have e0 : opF 3 = 0 := rfl
  have htk : takesF m 3 nm = false := takes_k (by decide)
  have han : ∀ ts,argsF m sc (takesF m 3 nm) as = .ok ts → ∀ t ∈ ts,t.Gd := by rw [htk]; exact args_gd hg hs as
  refine call_pure (pf := p12) rfl rfl rfl rfl (by simp [PV.lowL,PV.low,strs_low,flds_low,scts_low,funs_low,h1,exs_low]) (by simp [PV.low,PV.lowL,strs_low,flds_low,scts_low,funs_low,h1,exs_low]) ?_ h
  show kQ E _ (endQ [⟨6,some (some 2)⟩,⟨7,none⟩] _) .norm { lvl := 0,tmps := mk 159 [(0,.agg m.c),(1,.vs fs (flds sc)),(2,.agg [.int .i64 3,.int .i64 o,.str nm,.int .i64 x,.vs fl (exs as)])],heap := [[none,none,none,none,none,none]],defers := [] }
  have pu45 : pureB E 45 = true := rfl
  repeat' first | ((with_reducible first | refine cS ?_ ?_ | refine oS ?_ ?_ | refine dS ?_ ?_) <;> intro _) | ((with_reducible refine kk ?_ ?_); · rfl) | (simp -implicitDefEqProofs (disch := first | omega | assumption) only [push_cast,simprocAttr,eqTop,eqShL,eqSh,K_seq,op_ok,e0,ha]) | ((with_reducible first | refine cB ?_ ?_ | refine oB ?_ ?_ | refine dB ?_ ?_) <;> intro _)
  with_reducible refine rext_start m hm (fs := fs) sc 3 o x nm fl as has hrec (argsF m sc (takesF m 3 nm) as) ?_ ?_ _ _ _ rfl ?_ ?_ ?_ ?_ ?_ ?_
  all_goals first
    | (simp [look,look_keepL]; done)
    | skip
  · intro t acc g o3 c hc k6 k7
    rw [hc]
    repeat' first | ((with_reducible first | refine cS ?_ ?_ | refine oS ?_ ?_ | refine dS ?_ ?_) <;> intro _) | ((with_reducible refine kk ?_ ?_); · rfl) | (simp -implicitDefEqProofs (disch := first | omega | assumption) only [push_cast,simprocAttr,eqTop,eqShL,eqSh,K_seq,k6,k7]) | ((with_reducible first | refine cB ?_ ?_ | refine oB ?_ ?_ | refine dB ?_ ?_) <;> intro _)
  · intro t ts g o3 hf k1 k3 k5 k6 k9
    have hlen := args_len hf
    have hgd := han _ hf
    rw [hf]
    repeat' first | ((with_reducible first | refine cS ?_ ?_ | refine oS ?_ ?_ | refine dS ?_ ?_) <;> intro _) | ((with_reducible refine kk ?_ ?_); · rfl) | (simp -implicitDefEqProofs (disch := first | omega | assumption) only [push_cast,simprocAttr,eqTop,eqShL,eqSh,K_seq,k1,k3,k5,k6,k9,h1,hm,hsc,rlit_ok]) | ((with_reducible first | refine cB ?_ ?_ | refine oB ?_ ?_ | refine dB ?_ ?_) <;> intro _)
    all_goals simp [nodeF]
set_option maxHeartbeats 4000000 in
theorem rex4 (m : Mod) (hm : m.Ok) (hg : m.Gd) (fs : Fl) (sc : List Fld) (hsc : sc.length ≤ 1048576) (hs : ∀ f ∈ sc,f.ty.Gd) (o x : Int) (nm : Str) (fl : Fl) (as : List Ex) (has : as.length ≤ 1048576) (ha : (as.length : Int) = 0) (hrec : ∀ a ∈ as, ∀ h,doCall E (callR E) 12 [.agg m.c,.vs fs (flds sc),.agg a.c] h = some (encR (exprF m sc a),h)) (h : Heap) :
    doCall E (callR E) 12 [.agg m.c,.vs fs (flds sc),.agg [.int .i64 4,.int .i64 o,.str nm,.int .i64 x,.vs fl (exs as)]] h = some (encR (match argsF m sc (takesF m 4 nm) as with | .error c => (tz,c) | .ok ts => nodeF m sc 4 o nm x as ts),h) := by
  have h1 := m.hm
  have e0 : opF 4 = 0 := rfl
  have htk : takesF m 4 nm = false := takes_k (by decide)
  have han : ∀ ts,argsF m sc (takesF m 4 nm) as = .ok ts → ∀ t ∈ ts,t.Gd := by rw [htk]; exact args_gd hg hs as
  refine call_pure (pf := p12) rfl rfl rfl rfl (by simp [PV.lowL,PV.low,strs_low,flds_low,scts_low,funs_low,h1,exs_low]) (by simp [PV.low,PV.lowL,strs_low,flds_low,scts_low,funs_low,h1,exs_low]) ?_ h
  show kQ E _ (endQ [⟨6,some (some 2)⟩,⟨7,none⟩] _) .norm { lvl := 0,tmps := mk 159 [(0,.agg m.c),(1,.vs fs (flds sc)),(2,.agg [.int .i64 4,.int .i64 o,.str nm,.int .i64 x,.vs fl (exs as)])],heap := [[none,none,none,none,none,none]],defers := [] }
  have pu45 : pureB E 45 = true := rfl
  repeat' first | ((with_reducible first | refine cS ?_ ?_ | refine oS ?_ ?_ | refine dS ?_ ?_) <;> intro _) | ((with_reducible refine kk ?_ ?_); · rfl) | (simp -implicitDefEqProofs (disch := first | omega | assumption) only [push_cast,simprocAttr,eqTop,eqShL,eqSh,K_seq,op_ok,e0,ha]) | ((with_reducible first | refine cB ?_ ?_ | refine oB ?_ ?_ | refine dB ?_ ?_) <;> intro _)
  with_reducible refine rext_start m hm (fs := fs) sc 4 o x nm fl as has hrec (argsF m sc (takesF m 4 nm) as) ?_ ?_ _ _ _ rfl ?_ ?_ ?_ ?_ ?_ ?_
  all_goals first
    | (simp [look,look_keepL]; done)
    | skip
  · intro t acc g o3 c hc k6 k7
    rw [hc]
    repeat' first | ((with_reducible first | refine cS ?_ ?_ | refine oS ?_ ?_ | refine dS ?_ ?_) <;> intro _) | ((with_reducible refine kk ?_ ?_); · rfl) | (simp -implicitDefEqProofs (disch := first | omega | assumption) only [push_cast,simprocAttr,eqTop,eqShL,eqSh,K_seq,k6,k7]) | ((with_reducible first | refine cB ?_ ?_ | refine oB ?_ ?_ | refine dB ?_ ?_) <;> intro _)
  · intro t ts g o3 hf k1 k3 k5 k6 k9
    have hlen := args_len hf
    have hgd := han _ hf
    rw [hf]
    cases hv : varF m sc nm with
    | none =>
      repeat' first | ((with_reducible first | refine cS ?_ ?_ | refine oS ?_ ?_ | refine dS ?_ ?_) <;> intro _) | ((with_reducible refine kk ?_ ?_); · rfl) | (simp -implicitDefEqProofs (disch := first | omega | assumption) only [push_cast,simprocAttr,eqTop,eqShL,eqSh,K_seq,k1,k3,k5,k6,k9,h1,hm,hsc,rvar_ok,hv,Option.isSome_none,Option.isSome_some,Option.getD_none,Option.getD_some]) | ((with_reducible first | refine cB ?_ ?_ | refine oB ?_ ?_ | refine dB ?_ ?_) <;> intro _)
      all_goals simp [nodeF,varR,hv]
    | some u =>
      repeat' first | ((with_reducible first | refine cS ?_ ?_ | refine oS ?_ ?_ | refine dS ?_ ?_) <;> intro _) | ((with_reducible refine kk ?_ ?_); · rfl) | (simp -implicitDefEqProofs (disch := first | omega | assumption) only [push_cast,simprocAttr,eqTop,eqShL,eqSh,K_seq,k1,k3,k5,k6,k9,h1,hm,hsc,rvar_ok,hv,Option.isSome_none,Option.isSome_some,Option.getD_none,Option.getD_some]) | ((with_reducible first | refine cB ?_ ?_ | refine oB ?_ ?_ | refine dB ?_ ?_) <;> intro _)
      all_goals simp [nodeF,varR,hv]
set_option maxHeartbeats 4000000 in
theorem rex5 (m : Mod) (hm : m.Ok) (hg : m.Gd) (fs : Fl) (sc : List Fld) (hsc : sc.length ≤ 1048576) (hs : ∀ f ∈ sc,f.ty.Gd) (o x : Int) (nm : Str) (fl : Fl) (as : List Ex) (has : as.length ≤ 1048576) (ha : (as.length : Int) = 1) (hrec : ∀ a ∈ as, ∀ h,doCall E (callR E) 12 [.agg m.c,.vs fs (flds sc),.agg a.c] h = some (encR (exprF m sc a),h)) (h : Heap) :
    doCall E (callR E) 12 [.agg m.c,.vs fs (flds sc),.agg [.int .i64 5,.int .i64 o,.str nm,.int .i64 x,.vs fl (exs as)]] h = some (encR (match argsF m sc (takesF m 5 nm) as with | .error c => (tz,c) | .ok ts => nodeF m sc 5 o nm x as ts),h) := by
  have h1 := m.hm
  have e0 : opF 5 = 1 := rfl
  have htk : takesF m 5 nm = false := takes_k (by decide)
  have han : ∀ ts,argsF m sc (takesF m 5 nm) as = .ok ts → ∀ t ∈ ts,t.Gd := by rw [htk]; exact args_gd hg hs as
  refine call_pure (pf := p12) rfl rfl rfl rfl (by simp [PV.lowL,PV.low,strs_low,flds_low,scts_low,funs_low,h1,exs_low]) (by simp [PV.low,PV.lowL,strs_low,flds_low,scts_low,funs_low,h1,exs_low]) ?_ h
  show kQ E _ (endQ [⟨6,some (some 2)⟩,⟨7,none⟩] _) .norm { lvl := 0,tmps := mk 159 [(0,.agg m.c),(1,.vs fs (flds sc)),(2,.agg [.int .i64 5,.int .i64 o,.str nm,.int .i64 x,.vs fl (exs as)])],heap := [[none,none,none,none,none,none]],defers := [] }
  have pu45 : pureB E 45 = true := rfl
  repeat' first | ((with_reducible first | refine cS ?_ ?_ | refine oS ?_ ?_ | refine dS ?_ ?_) <;> intro _) | ((with_reducible refine kk ?_ ?_); · rfl) | (simp -implicitDefEqProofs (disch := first | omega | assumption) only [push_cast,simprocAttr,eqTop,eqShL,eqSh,K_seq,op_ok,e0,ha]) | ((with_reducible first | refine cB ?_ ?_ | refine oB ?_ ?_ | refine dB ?_ ?_) <;> intro _)
  with_reducible refine rext_start m hm (fs := fs) sc 5 o x nm fl as has hrec (argsF m sc (takesF m 5 nm) as) ?_ ?_ _ _ _ rfl ?_ ?_ ?_ ?_ ?_ ?_
  all_goals first
    | (simp [look,look_keepL]; done)
    | skip
  · intro t acc g o3 c hc k6 k7
    rw [hc]
    repeat' first | ((with_reducible first | refine cS ?_ ?_ | refine oS ?_ ?_ | refine dS ?_ ?_) <;> intro _) | ((with_reducible refine kk ?_ ?_); · rfl) | (simp -implicitDefEqProofs (disch := first | omega | assumption) only [push_cast,simprocAttr,eqTop,eqShL,eqSh,K_seq,k6,k7]) | ((with_reducible first | refine cB ?_ ?_ | refine oB ?_ ?_ | refine dB ?_ ?_) <;> intro _)
  · intro t ts g o3 hf k1 k3 k5 k6 k9
    have hlen := args_len hf
    have hgd := han _ hf
    rw [hf]
    obtain ⟨u,hu⟩ := len1 (ts := ts) (by omega)
    have hcl := (hgd u (by rw [hu]; simp)).1
    rw [hu] at k9 ⊢
    repeat' first | ((with_reducible first | refine cS ?_ ?_ | refine oS ?_ ?_ | refine dS ?_ ?_) <;> intro _) | ((with_reducible refine kk ?_ ?_); · rfl) | (simp -implicitDefEqProofs (disch := first | omega | assumption) only [push_cast,simprocAttr,eqTop,eqShL,eqSh,K_seq,k1,k3,k5,k6,k9,h1,hm,hsc,tys1,runary_ok]) | ((with_reducible first | refine cB ?_ ?_ | refine oB ?_ ?_ | refine dB ?_ ?_) <;> intro _)
    all_goals simp [nodeF,runary_cl hcl]
set_option maxHeartbeats 4000000 in
theorem rex6 (m : Mod) (hm : m.Ok) (hg : m.Gd) (fs : Fl) (sc : List Fld) (hsc : sc.length ≤ 1048576) (hs : ∀ f ∈ sc,f.ty.Gd) (o x : Int) (nm : Str) (fl : Fl) (as : List Ex) (has : as.length ≤ 1048576) (ha : (as.length : Int) = 2) (hrec : ∀ a ∈ as, ∀ h,doCall E (callR E) 12 [.agg m.c,.vs fs (flds sc),.agg a.c] h = some (encR (exprF m sc a),h)) (h : Heap) :
    doCall E (callR E) 12 [.agg m.c,.vs fs (flds sc),.agg [.int .i64 6,.int .i64 o,.str nm,.int .i64 x,.vs fl (exs as)]] h = some (encR (match argsF m sc (takesF m 6 nm) as with | .error c => (tz,c) | .ok ts => nodeF m sc 6 o nm x as ts),h) := by
  have h1 := m.hm
  have e0 : opF 6 = 2 := rfl
  have htk : takesF m 6 nm = false := takes_k (by decide)
  have han : ∀ ts,argsF m sc (takesF m 6 nm) as = .ok ts → ∀ t ∈ ts,t.Gd := by rw [htk]; exact args_gd hg hs as
  refine call_pure (pf := p12) rfl rfl rfl rfl (by simp [PV.lowL,PV.low,strs_low,flds_low,scts_low,funs_low,h1,exs_low]) (by simp [PV.low,PV.lowL,strs_low,flds_low,scts_low,funs_low,h1,exs_low]) ?_ h
  show kQ E _ (endQ [⟨6,some (some 2)⟩,⟨7,none⟩] _) .norm { lvl := 0,tmps := mk 159 [(0,.agg m.c),(1,.vs fs (flds sc)),(2,.agg [.int .i64 6,.int .i64 o,.str nm,.int .i64 x,.vs fl (exs as)])],heap := [[none,none,none,none,none,none]],defers := [] }
  have pu45 : pureB E 45 = true := rfl
  repeat' first | ((with_reducible first | refine cS ?_ ?_ | refine oS ?_ ?_ | refine dS ?_ ?_) <;> intro _) | ((with_reducible refine kk ?_ ?_); · rfl) | (simp -implicitDefEqProofs (disch := first | omega | assumption) only [push_cast,simprocAttr,eqTop,eqShL,eqSh,K_seq,op_ok,e0,ha]) | ((with_reducible first | refine cB ?_ ?_ | refine oB ?_ ?_ | refine dB ?_ ?_) <;> intro _)
  with_reducible refine rext_start m hm (fs := fs) sc 6 o x nm fl as has hrec (argsF m sc (takesF m 6 nm) as) ?_ ?_ _ _ _ rfl ?_ ?_ ?_ ?_ ?_ ?_
  all_goals first
    | (simp [look,look_keepL]; done)
    | skip
  · intro t acc g o3 c hc k6 k7
    rw [hc]
    repeat' first | ((with_reducible first | refine cS ?_ ?_ | refine oS ?_ ?_ | refine dS ?_ ?_) <;> intro _) | ((with_reducible refine kk ?_ ?_); · rfl) | (simp -implicitDefEqProofs (disch := first | omega | assumption) only [push_cast,simprocAttr,eqTop,eqShL,eqSh,K_seq,k6,k7]) | ((with_reducible first | refine cB ?_ ?_ | refine oB ?_ ?_ | refine dB ?_ ?_) <;> intro _)
  · intro t ts g o3 hf k1 k3 k5 k6 k9
    have hlen := args_len hf
    have hgd := han _ hf
    rw [hf]
    obtain ⟨u,v,hu⟩ := len2 (ts := ts) (by omega)
    have gu := hgd u (by rw [hu]; simp)
    have gv := hgd v (by rw [hu]; simp)
    have hcl := rbinary_cl (op := o) gu.1 gv.1 gu.2
    rw [hu] at k9 ⊢
    repeat' first | ((with_reducible first | refine cS ?_ ?_ | refine oS ?_ ?_ | refine dS ?_ ?_) <;> intro _) | ((with_reducible refine kk ?_ ?_); · rfl) | (simp -implicitDefEqProofs (disch := first | omega | assumption) only [push_cast,simprocAttr,eqTop,eqShL,eqSh,K_seq,k1,k3,k5,k6,k9,h1,hm,hsc,tys2,rbinary_ok]) | ((with_reducible first | refine cB ?_ ?_ | refine oB ?_ ?_ | refine dB ?_ ?_) <;> intro _)
    all_goals simp [nodeF,hcl]
set_option maxHeartbeats 4000000 in
theorem rex7 (m : Mod) (hm : m.Ok) (hg : m.Gd) (fs : Fl) (sc : List Fld) (hsc : sc.length ≤ 1048576) (hs : ∀ f ∈ sc,f.ty.Gd) (o x : Int) (nm : Str) (fl : Fl) (as : List Ex) (has : as.length ≤ 1048576) (hrec : ∀ a ∈ as, ∀ h,doCall E (callR E) 12 [.agg m.c,.vs fs (flds sc),.agg a.c] h = some (encR (exprF m sc a),h)) (h : Heap) :
    doCall E (callR E) 12 [.agg m.c,.vs fs (flds sc),.agg [.int .i64 7,.int .i64 o,.str nm,.int .i64 x,.vs fl (exs as)]] h = some (encR (match argsF m sc (takesF m 7 nm) as with | .error c => (tz,c) | .ok ts => nodeF m sc 7 o nm x as ts),h) := by
  have h1 := m.hm
  have e0 : opF 7 = -1 := rfl
  have han : ∀ ts,argsF m sc (takesF m 7 nm) as = .ok ts → ∀ t ∈ ts,t.Cl := (argsF_good hg hs as _).2
  refine call_pure (pf := p12) rfl rfl rfl rfl (by simp [PV.lowL,PV.low,strs_low,flds_low,scts_low,funs_low,h1,exs_low]) (by simp [PV.low,PV.lowL,strs_low,flds_low,scts_low,funs_low,h1,exs_low]) ?_ h
  show kQ E _ (endQ [⟨6,some (some 2)⟩,⟨7,none⟩] _) .norm { lvl := 0,tmps := mk 159 [(0,.agg m.c),(1,.vs fs (flds sc)),(2,.agg [.int .i64 7,.int .i64 o,.str nm,.int .i64 x,.vs fl (exs as)])],heap := [[none,none,none,none,none,none]],defers := [] }
  have pu45 : pureB E 45 = true := rfl
  repeat' first | ((with_reducible first | refine cS ?_ ?_ | refine oS ?_ ?_ | refine dS ?_ ?_) <;> intro _) | ((with_reducible refine kk ?_ ?_); · rfl) | (simp -implicitDefEqProofs (disch := first | omega | assumption) only [push_cast,simprocAttr,eqTop,eqShL,eqSh,K_seq,op_ok,e0]) | ((with_reducible first | refine cB ?_ ?_ | refine oB ?_ ?_ | refine dB ?_ ?_) <;> intro _)
  with_reducible refine rext_start m hm (fs := fs) sc 7 o x nm fl as has hrec (argsF m sc (takesF m 7 nm) as) ?_ ?_ _ _ _ rfl ?_ ?_ ?_ ?_ ?_ ?_
  all_goals first
    | (simp [look,look_keepL]; done)
    | skip
  · intro t acc g o3 c hc k6 k7
    rw [hc]
    repeat' first | ((with_reducible first | refine cS ?_ ?_ | refine oS ?_ ?_ | refine dS ?_ ?_) <;> intro _) | ((with_reducible refine kk ?_ ?_); · rfl) | (simp -implicitDefEqProofs (disch := first | omega | assumption) only [push_cast,simprocAttr,eqTop,eqShL,eqSh,K_seq,k6,k7]) | ((with_reducible first | refine cB ?_ ?_ | refine oB ?_ ?_ | refine dB ?_ ?_) <;> intro _)
  · intro t ts g o3 hf k1 k3 k5 k6 k9
    have hlen := args_len hf
    have hgd := han _ hf
    rw [hf]
    have hcc := fun (g : Nat) (c0 o2 o3 o4 o5 : Option Ob) => rcall_own m hm (fun f hf => (hg.ins f hf).1) fs sc hsc o x nm fl as ts hgd hlen (by omega) g c0 o2 o3 o4 o5
    repeat' first | ((with_reducible first | refine cS ?_ ?_ | refine oS ?_ ?_ | refine dS ?_ ?_) <;> intro _) | ((with_reducible refine kk ?_ ?_); · rfl) | (simp -implicitDefEqProofs (disch := first | omega | assumption) only [push_cast,simprocAttr,eqTop,eqShL,eqSh,K_seq,k1,k3,k5,k6,k9,h1,hm,hsc,hcc]) | ((with_reducible first | refine cB ?_ ?_ | refine oB ?_ ?_ | refine dB ?_ ?_) <;> intro _)
    all_goals simp [nodeF]
set_option maxHeartbeats 4000000 in
theorem rex8 (m : Mod) (hm : m.Ok) (hg : m.Gd) (fs : Fl) (sc : List Fld) (hsc : sc.length ≤ 1048576) (hs : ∀ f ∈ sc,f.ty.Gd) (o x : Int) (nm : Str) (fl : Fl) (as : List Ex) (has : as.length ≤ 1048576) (ha : (as.length : Int) = 1) (hrec : ∀ a ∈ as, ∀ h,doCall E (callR E) 12 [.agg m.c,.vs fs (flds sc),.agg a.c] h = some (encR (exprF m sc a),h)) (h : Heap) :
    doCall E (callR E) 12 [.agg m.c,.vs fs (flds sc),.agg [.int .i64 8,.int .i64 o,.str nm,.int .i64 x,.vs fl (exs as)]] h = some (encR (match argsF m sc (takesF m 8 nm) as with | .error c => (tz,c) | .ok ts => nodeF m sc 8 o nm x as ts),h) := by
  have h1 := m.hm
  have e0 : opF 8 = 1 := rfl
  have htk : takesF m 8 nm = false := takes_k (by decide)
  have han : ∀ ts,argsF m sc (takesF m 8 nm) as = .ok ts → ∀ t ∈ ts,t.Gd := by rw [htk]; exact args_gd hg hs as
  refine call_pure (pf := p12) rfl rfl rfl rfl (by simp [PV.lowL,PV.low,strs_low,flds_low,scts_low,funs_low,h1,exs_low]) (by simp [PV.low,PV.lowL,strs_low,flds_low,scts_low,funs_low,h1,exs_low]) ?_ h
  show kQ E _ (endQ [⟨6,some (some 2)⟩,⟨7,none⟩] _) .norm { lvl := 0,tmps := mk 159 [(0,.agg m.c),(1,.vs fs (flds sc)),(2,.agg [.int .i64 8,.int .i64 o,.str nm,.int .i64 x,.vs fl (exs as)])],heap := [[none,none,none,none,none,none]],defers := [] }
  have pu45 : pureB E 45 = true := rfl
  repeat' first | ((with_reducible first | refine cS ?_ ?_ | refine oS ?_ ?_ | refine dS ?_ ?_) <;> intro _) | ((with_reducible refine kk ?_ ?_); · rfl) | (simp -implicitDefEqProofs (disch := first | omega | assumption) only [push_cast,simprocAttr,eqTop,eqShL,eqSh,K_seq,op_ok,e0,ha]) | ((with_reducible first | refine cB ?_ ?_ | refine oB ?_ ?_ | refine dB ?_ ?_) <;> intro _)
  with_reducible refine rext_start m hm (fs := fs) sc 8 o x nm fl as has hrec (argsF m sc (takesF m 8 nm) as) ?_ ?_ _ _ _ rfl ?_ ?_ ?_ ?_ ?_ ?_
  all_goals first
    | (simp [look,look_keepL]; done)
    | skip
  · intro t acc g o3 c hc k6 k7
    rw [hc]
    repeat' first | ((with_reducible first | refine cS ?_ ?_ | refine oS ?_ ?_ | refine dS ?_ ?_) <;> intro _) | ((with_reducible refine kk ?_ ?_); · rfl) | (simp -implicitDefEqProofs (disch := first | omega | assumption) only [push_cast,simprocAttr,eqTop,eqShL,eqSh,K_seq,k6,k7]) | ((with_reducible first | refine cB ?_ ?_ | refine oB ?_ ?_ | refine dB ?_ ?_) <;> intro _)
  · intro t ts g o3 hf k1 k3 k5 k6 k9
    have hlen := args_len hf
    have hgd := han _ hf
    rw [hf]
    obtain ⟨u,hu⟩ := len1 (ts := ts) (by omega)
    have hcl := (hgd u (by rw [hu]; simp)).1
    rw [hu] at k9 ⊢
    repeat' first | ((with_reducible first | refine cS ?_ ?_ | refine oS ?_ ?_ | refine dS ?_ ?_) <;> intro _) | ((with_reducible refine kk ?_ ?_); · rfl) | (simp -implicitDefEqProofs (disch := first | omega | assumption) only [push_cast,simprocAttr,eqTop,eqShL,eqSh,K_seq,k1,k3,k5,k6,k9,h1,hm,hsc,tys1,rmem_ok]) | ((with_reducible first | refine cB ?_ ?_ | refine oB ?_ ?_ | refine dB ?_ ?_) <;> intro _)
    all_goals simp [nodeF]
set_option maxHeartbeats 4000000 in
theorem rex9 (m : Mod) (hm : m.Ok) (hg : m.Gd) (fs : Fl) (sc : List Fld) (hsc : sc.length ≤ 1048576) (hs : ∀ f ∈ sc,f.ty.Gd) (o x : Int) (nm : Str) (fl : Fl) (as : List Ex) (has : as.length ≤ 1048576) (ha : (as.length : Int) = 2) (hrec : ∀ a ∈ as, ∀ h,doCall E (callR E) 12 [.agg m.c,.vs fs (flds sc),.agg a.c] h = some (encR (exprF m sc a),h)) (h : Heap) :
    doCall E (callR E) 12 [.agg m.c,.vs fs (flds sc),.agg [.int .i64 9,.int .i64 o,.str nm,.int .i64 x,.vs fl (exs as)]] h = some (encR (match argsF m sc (takesF m 9 nm) as with | .error c => (tz,c) | .ok ts => nodeF m sc 9 o nm x as ts),h) := by
  have h1 := m.hm
  have e0 : opF 9 = 2 := rfl
  have htk : takesF m 9 nm = false := takes_k (by decide)
  have han : ∀ ts,argsF m sc (takesF m 9 nm) as = .ok ts → ∀ t ∈ ts,t.Gd := by rw [htk]; exact args_gd hg hs as
  refine call_pure (pf := p12) rfl rfl rfl rfl (by simp [PV.lowL,PV.low,strs_low,flds_low,scts_low,funs_low,h1,exs_low]) (by simp [PV.low,PV.lowL,strs_low,flds_low,scts_low,funs_low,h1,exs_low]) ?_ h
  show kQ E _ (endQ [⟨6,some (some 2)⟩,⟨7,none⟩] _) .norm { lvl := 0,tmps := mk 159 [(0,.agg m.c),(1,.vs fs (flds sc)),(2,.agg [.int .i64 9,.int .i64 o,.str nm,.int .i64 x,.vs fl (exs as)])],heap := [[none,none,none,none,none,none]],defers := [] }
  have pu45 : pureB E 45 = true := rfl
  repeat' first | ((with_reducible first | refine cS ?_ ?_ | refine oS ?_ ?_ | refine dS ?_ ?_) <;> intro _) | ((with_reducible refine kk ?_ ?_); · rfl) | (simp -implicitDefEqProofs (disch := first | omega | assumption) only [push_cast,simprocAttr,eqTop,eqShL,eqSh,K_seq,op_ok,e0,ha]) | ((with_reducible first | refine cB ?_ ?_ | refine oB ?_ ?_ | refine dB ?_ ?_) <;> intro _)
  with_reducible refine rext_start m hm (fs := fs) sc 9 o x nm fl as has hrec (argsF m sc (takesF m 9 nm) as) ?_ ?_ _ _ _ rfl ?_ ?_ ?_ ?_ ?_ ?_
  all_goals first
    | (simp [look,look_keepL]; done)
    | skip
  · intro t acc g o3 c hc k6 k7
    rw [hc]
    repeat' first | ((with_reducible first | refine cS ?_ ?_ | refine oS ?_ ?_ | refine dS ?_ ?_) <;> intro _) | ((with_reducible refine kk ?_ ?_); · rfl) | (simp -implicitDefEqProofs (disch := first | omega | assumption) only [push_cast,simprocAttr,eqTop,eqShL,eqSh,K_seq,k6,k7]) | ((with_reducible first | refine cB ?_ ?_ | refine oB ?_ ?_ | refine dB ?_ ?_) <;> intro _)
  · intro t ts g o3 hf k1 k3 k5 k6 k9
    have hlen := args_len hf
    have hgd := han _ hf
    rw [hf]
    obtain ⟨u,v,hu⟩ := len2 (ts := ts) (by omega)
    rw [hu] at k9 ⊢
    cases hvc : isVc u.kind
    · repeat' first | ((with_reducible first | refine cS ?_ ?_ | refine oS ?_ ?_ | refine dS ?_ ?_) <;> intro _) | ((with_reducible refine kk ?_ ?_); · rfl) | (simp -implicitDefEqProofs (disch := first | omega | assumption) only [push_cast,simprocAttr,K_seq,k1,k3,k5,k6,k9,h1,hm,hsc,tys2,ty_eq,ty_eta,of_ok,rvc_ok,hvc]) | ((with_reducible first | refine cB ?_ ?_ | refine oB ?_ ?_ | refine dB ?_ ?_) <;> intro _)
      all_goals simp_all [nodeF]
    · repeat' first | ((with_reducible first | refine cS ?_ ?_ | refine oS ?_ ?_ | refine dS ?_ ?_) <;> intro _) | ((with_reducible refine kk ?_ ?_); · rfl) | (simp -implicitDefEqProofs (disch := first | omega | assumption) only [push_cast,simprocAttr,K_seq,k1,k3,k5,k6,k9,h1,hm,hsc,tys2,ty_eq,ty_eta,of_ok,rvc_ok,hvc]) | ((with_reducible first | refine cB ?_ ?_ | refine oB ?_ ?_ | refine dB ?_ ?_) <;> intro _)
      all_goals simp_all [nodeF]
theorem rexbad (m : Mod) (fs : Fl) (sc : List Fld) (k o x : Int) (nm : Str) (fl : Fl) (as : List Ex) (has : as.length ≤ 1048576) (hk : opF k = -2 ∨ (0 ≤ opF k ∧ opF k ≠ as.length)) (h : Heap) :
    doCall E (callR E) 12 [.agg m.c,.vs fs (flds sc),.agg [.int .i64 k,.int .i64 o,.str nm,.int .i64 x,.vs fl (exs as)]] h = some (encR (tz,10),h) := by
  have h1 := m.hm
  refine call_pure (pf := p12) rfl rfl rfl rfl (by simp [PV.lowL,PV.low,strs_low,flds_low,scts_low,funs_low,h1,exs_low]) (by simp [PV.low,PV.lowL,strs_low,flds_low,scts_low,funs_low,h1,exs_low]) ?_ h
  show kQ E _ (endQ [⟨6,some (some 2)⟩,⟨7,none⟩] _) .norm { lvl := 0,tmps := mk 159 [(0,.agg m.c),(1,.vs fs (flds sc)),(2,.agg [.int .i64 k,.int .i64 o,.str nm,.int .i64 x,.vs fl (exs as)])],heap := [[none,none,none,none,none,none]],defers := [] }
  have pu45 : pureB E 45 = true := rfl
  rcases hk with hk | ⟨hk,hk2⟩
  · repeat' first | ((with_reducible first | refine cS ?_ ?_ | refine oS ?_ ?_ | refine dS ?_ ?_) <;> intro _) | ((with_reducible refine kk ?_ ?_); · rfl) | (simp -implicitDefEqProofs (disch := first | omega | assumption) only [push_cast,simprocAttr,eqTop,eqShL,eqSh,K_seq,op_ok,hk]) | ((with_reducible first | refine cB ?_ ?_ | refine oB ?_ ?_ | refine dB ?_ ?_) <;> intro _)
  · by_cases hk0 : opF k = -2
    · omega
    repeat' first | ((with_reducible first | refine cS ?_ ?_ | refine oS ?_ ?_ | refine dS ?_ ?_) <;> intro _) | ((with_reducible refine kk ?_ ?_); · rfl) | (simp -implicitDefEqProofs (disch := first | omega | assumption) only [push_cast,simprocAttr,eqTop,eqShL,eqSh,K_seq,op_ok,hk0,hk,hk2]) | ((with_reducible first | refine cB ?_ ?_ | refine oB ?_ ?_ | refine dB ?_ ?_) <;> intro _)
theorem kinds9 {k : Int} {n : Nat} (h : ¬ (opF k = -2 ∨ (0 ≤ opF k ∧ opF k ≠ (n : Int)))) : k = 7 ∨ ((k = 1 ∨ k = 2 ∨ k = 3 ∨ k = 4) ∧ (n : Int) = 0) ∨ ((k = 5 ∨ k = 8) ∧ (n : Int) = 1) ∨ ((k = 6 ∨ k = 9) ∧ (n : Int) = 2) := by
  unfold opF at h
  (repeat' split at h) <;> omega
theorem exprF_bad {m : Mod} {sc : List Fld} {k o x : Int} {nm : Str} {fl : Fl} {xs : List Ex} (h : opF k = -2 ∨ (0 ≤ opF k ∧ opF k ≠ xs.length)) : exprF m sc (.mk k o nm x fl xs) = (tz,10) := by
  rw [exprF,if_pos]
  unfold opF at h
  unfold arityF
  (repeat' split at h) <;> (repeat' split) <;> omega
theorem rexpr_ok : ∀ (n : Nat) (e : Ex),e.size ≤ n → e.size ≤ 1048576 → ∀ (m : Mod) (hm : m.Ok) (hg : m.Gd) (fs : Fl) (sc : List Fld) (hsc : sc.length ≤ 1048576) (hs : ∀ f ∈ sc,f.ty.Gd) (h : Heap),
    doCall E (callR E) 12 [.agg m.c,.vs fs (flds sc),.agg e.c] h = some (encR (exprF m sc e),h)
  | 0,.mk k o nm x fl as,hn,_,_,_,_,_,_,_,_,_ => by simp [Ex.size] at hn
  | n + 1,.mk k o nm x fl as,hn,hok,m,hm,hg,fs,sc,hsc,hs,h => by
    have hsz : 1 + sizeL as ≤ 1048576 := by simpa [Ex.size] using hok
    have has : as.length ≤ 1048576 := by have := sizeL_len as; omega
    have hrec : ∀ a ∈ as, ∀ h,doCall E (callR E) 12 [.agg m.c,.vs fs (flds sc),.agg a.c] h = some (encR (exprF m sc a),h) := by
      intro a ha h
      have := Ex.size_mem ha
      exact rexpr_ok n a (by simp [Ex.size] at hn; omega) (by omega) m hm hg fs sc hsc hs h
    rw [show (Ex.mk k o nm x fl as).c = [.int .i64 k,.int .i64 o,.str nm,.int .i64 x,.vs fl (exs as)] from by simp [Ex.c]]
    by_cases hk : opF k = -2 ∨ (0 ≤ opF k ∧ opF k ≠ as.length)
    · rw [exprF_bad hk]
      exact rexbad m fs sc k o x nm fl as has hk h
    · rcases kinds9 hk with hk | ⟨hk | hk | hk | hk,ha⟩ | ⟨hk | hk,ha⟩ | ⟨hk | hk,ha⟩
      · rw [hk,exprF_eq (Or.inl rfl)]
        exact rex7 m hm hg fs sc hsc hs o x nm fl as has hrec h
      · rw [hk,exprF_eq (Or.inr ha)]
        exact rex1 m hm hg fs sc hsc hs o x nm fl as has ha hrec h
      · rw [hk,exprF_eq (Or.inr ha)]
        exact rex2 m hm hg fs sc hsc hs o x nm fl as has ha hrec h
      · rw [hk,exprF_eq (Or.inr ha)]
        exact rex3 m hm hg fs sc hsc hs o x nm fl as has ha hrec h
      · rw [hk,exprF_eq (Or.inr ha)]
        exact rex4 m hm hg fs sc hsc hs o x nm fl as has ha hrec h
      · rw [hk,exprF_eq (Or.inr ha)]
        exact rex5 m hm hg fs sc hsc hs o x nm fl as has ha hrec h
      · rw [hk,exprF_eq (Or.inr ha)]
        exact rex8 m hm hg fs sc hsc hs o x nm fl as has ha hrec h
      · rw [hk,exprF_eq (Or.inr ha)]
        exact rex6 m hm hg fs sc hsc hs o x nm fl as has ha hrec h
      · rw [hk,exprF_eq (Or.inr ha)]
        exact rex9 m hm hg fs sc hsc hs o x nm fl as has ha hrec h
end Go.VI.S
