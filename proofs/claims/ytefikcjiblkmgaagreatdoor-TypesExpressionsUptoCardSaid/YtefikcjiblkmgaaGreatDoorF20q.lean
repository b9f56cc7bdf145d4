/- Chapter 20: calls; expressions whose arguments have types. -/
import Derived.Test.YtefikcjiblkmgaaGreatDoorF20p
import Derived.Test.YtefikcjiblkmgaaGreatDoorVi46
set_option maxRecDepth 100000
set_option linter.unusedSimpArgs false
set_option linter.unusedVariables false
set_option pp.deepTerms.threshold 4
set_option pp.deepTerms false
namespace Go.VI.S
open Go.VI
theorem exs1 {a : Ex} {r : List Ex} : exs (a :: r) = .agg a.c :: exs r := by simp [exs]
theorem take5 {a : Ex} : a.c.take 5 = a.c := List.take_of_length_le (by rw [a.c_len]; exact Nat.le_refl _)
theorem tys_drop {l : List Ty} {n : Nat} : (tys l).drop n = tys (l.drop n) := by simp [tys,List.map_drop]
theorem tys_take' {l : List Ty} {n : Nat} : (tys l).take n = tys (l.take n) := by simp [tys,List.map_take]
theorem resF_dd {m : Mod} {sc : List Fld} {nm nm' : Str} (hn : nm = [100,100,120] ∨ nm = [100,100,121]) {k' o' x' : Int} {fl' : Fl} {as' r : List Ex} (hk : k' = 4) (ha : as'.length = 0) {ts : List Ty} : resourceF m sc nm (.mk k' o' nm' x' fl' as' :: r) ts =
    (if fdF m.ins nm' < 0 ∨ 0 ≤ fdF sc nm' then (tz,13) else if ts.length > 1 then (tz,11) else if tyAt m.ins (fdF m.ins nm') ≠ ⟨1,[]⟩ ∧ isVc (tyAt m.ins (fdF m.ins nm')).kind = false then (tz,12) else if m.stage ≠ 3 then (tz,10) else (tyAt m.ins (fdF m.ins nm'),0)) := by
  rcases hn with hn | hn <;> simp [resourceF,Ex.kind,Ex.name,Ex.args,hk,ha,hn]
set_option maxHeartbeats 4000000 in
theorem res_dd (m : Mod) (hm : m.Ok) (fs : Fl) (sc : List Fld) (hsc : sc.length ≤ 1048576) (k o x : Int) (nm : Str) (hn : nm = [100,100,120] ∨ nm = [100,100,121]) (fl : Fl) (k' o' : Int) (nm' : Str) (x' : Int) (fl' : Fl) (as' r : List Ex) (ft : Fl) (ts : List Ty) (hz : ts.length = r.length + 1) (hb : ts.length ≤ 1048576) (hq : k' = 4 ∧ as'.length = 0) (h : Heap) :
    doCall E (callR E) 130 [.agg m.c,.vs fs (flds sc),.agg [.int .i64 k,.int .i64 o,.str nm,.int .i64 x,.vs fl (exs (.mk k' o' nm' x' fl' as' :: r))],.vs ft (tys ts)] h = some (encR (resourceF m sc nm (.mk k' o' nm' x' fl' as' :: r) ts),h) := by
  have h1 := m.hm
  have g1 := hm.ts
  have g2 := hm.bs
  have g3 := hm.ins
  refine call_pure (pf := p130) rfl rfl rfl rfl (by simp [PV.lowL,PV.low,strs_low,flds_low,scts_low,funs_low,h1,exs_low,tys_low]) (by simp [PV.low,PV.lowL,strs_low,flds_low,scts_low,funs_low,h1,exs_low,tys_low]) ?_ h
  show kQ E _ (endQ [⟨8,some (some 2)⟩,⟨9,none⟩] _) .norm { lvl := 0,tmps := mk 128 [(0,.agg m.c),(1,.vs fs (flds sc)),(2,.agg [.int .i64 k,.int .i64 o,.str nm,.int .i64 x,.vs fl (exs (.mk k' o' nm' x' fl' as' :: r))]),(3,.vs ft (tys ts))],heap := [[none,none,none,none,none]],defers := [] }
  have pu84 : pureB E 84 = true := rfl
  obtain ⟨hk4,hq0⟩ := hq
  have hdl : (ts.drop 1).length = ts.length - 1 := by simp
  have hdb : (ts.drop 1).length ≤ 1048576 := by omega
  have htk : ts.take (r.length + 1) = ts := by rw [← hz]; exact List.take_length
  have p1 := fdF_bd m.ins nm'
  have p2 := fdF_bd sc nm'
  have hd1 : headSz 2 (tys ts) = true := tys_head
  have e := resF_dd (m := m) (sc := sc) (nm := nm) (nm' := nm') (o' := o') (x' := x') (fl' := fl') (r := r) (ts := ts) hn hk4 hq0
  rw [e]
  clear e
  rcases hn with hn | hn
  all_goals subst hn
  all_goals by_cases hi : fdF m.ins nm' < 0
  iterate 2
    · repeat' first | ((with_reducible first | refine cS ?_ ?_ | refine oS ?_ ?_ | refine dS ?_ ?_) <;> intro _) | ((with_reducible refine kk ?_ ?_); · rfl) | (simp -implicitDefEqProofs (disch := first | omega | assumption) only [push_cast,simprocAttr,K_seq,ty_eq,ty_eta,l_beq,l_beq0,l_beq1,l_beq2,UInt8.reduceToNat,h1,tys_low,tys_len,hz,exs1,Ex.c,g1,g2,g3,hsc,shas_ok,kind_ok,hk4,hq0,binS,boundsE,bound,tys_drop,tys_take',htk,hd1,Option.isSome_none,Bool.false_eq_true,val1,val2,val3,hdb,fidx_ok,vc_ok,stabG,stabS,same_agg,same_ip,same_int,same_bool,same_str,same_vs,same_sl,same_ptr,sameL_nil,sameL_cons]) | ((with_reducible first | refine cB ?_ ?_ | refine oB ?_ ?_ | refine dB ?_ ?_) <;> intro _) | with_reducible refine optD_chk ?_ ?_ | with_reducible refine chkQ_out (by decide) ?_ | with_reducible refine chkQ_in' (by decide) ?_ ?_ | with_reducible exact chkQ_end | with_reducible refine stab1_eq ?_ | with_reducible refine optQ_some' ?_
      all_goals first
        | (rw [if_pos (by omega)]; done)
          | (rw [if_neg (by omega)]; simp [hty,hz, *]; done)
        | trace_state
    · obtain ⟨fd,hg,_,hty⟩ := fd_get (l := m.ins) (nm := nm') (by omega)
      by_cases hj : 0 ≤ fdF sc nm'
      · repeat' first | ((with_reducible first | refine cS ?_ ?_ | refine oS ?_ ?_ | refine dS ?_ ?_) <;> intro _) | ((with_reducible refine kk ?_ ?_); · rfl) | (simp -implicitDefEqProofs (disch := first | omega | assumption) only [push_cast,simprocAttr,K_seq,ty_eq,ty_eta,l_beq,l_beq0,l_beq1,l_beq2,UInt8.reduceToNat,h1,tys_low,tys_len,hz,exs1,Ex.c,g1,g2,g3,hsc,shas_ok,kind_ok,hk4,hq0,binS,boundsE,bound,tys_drop,tys_take',htk,hd1,Option.isSome_none,Bool.false_eq_true,val1,val2,val3,hdb,fidx_ok,vc_ok,stabG,stabS,same_agg,same_ip,same_int,same_bool,same_str,same_vs,same_sl,same_ptr,sameL_nil,sameL_cons]) | ((with_reducible first | refine cB ?_ ?_ | refine oB ?_ ?_ | refine dB ?_ ?_) <;> intro _) | with_reducible refine optD_chk ?_ ?_ | with_reducible refine chkQ_out (by decide) ?_ | with_reducible refine chkQ_in' (by decide) ?_ ?_ | with_reducible exact chkQ_end | with_reducible refine stab1_eq ?_ | with_reducible refine optQ_some' ?_
        all_goals first
          | (rw [if_pos (by omega)]; done)
          | (rw [if_neg (by omega)]; simp [hty,hz, *]; done)
          | trace_state
      · have hdr : (List.drop 1 ts).length = r.length := by omega
        repeat' first | ((with_reducible first | refine cS ?_ ?_ | refine oS ?_ ?_ | refine dS ?_ ?_) <;> intro _) | ((with_reducible refine kk ?_ ?_); · rfl) | (simp -implicitDefEqProofs (disch := first | omega | assumption) only [push_cast,simprocAttr,K_seq,ty_eq,ty_eta,l_beq,l_beq0,l_beq1,l_beq2,UInt8.reduceToNat,h1,tys_low,tys_len,hz,exs1,Ex.c,g1,g2,g3,hsc,shas_ok,kind_ok,hk4,hq0,binS,boundsE,bound,tys_drop,tys_take',htk,hd1,Option.isSome_none,Bool.false_eq_true,val1,val2,val3,hdb,fidx_ok,vc_ok,hg,hdr,stabG,stabS,same_agg,same_ip,same_int,same_bool,same_str,same_vs,same_sl,same_ptr,sameL_nil,sameL_cons]) | ((with_reducible first | refine cB ?_ ?_ | refine oB ?_ ?_ | refine dB ?_ ?_) <;> intro _) | with_reducible refine optD_chk ?_ ?_ | with_reducible refine chkQ_out (by decide) ?_ | with_reducible refine chkQ_in' (by decide) ?_ ?_ | with_reducible exact chkQ_end | with_reducible refine stab1_eq ?_ | with_reducible refine optQ_some' ?_
        all_goals first
          | (rw [if_pos (by omega)]; done)
          | (rw [if_neg (by omega)]; simp [hty,hz, *]; done)
          | (rw [hty]; simp [*]; done)
          | (rw [hty]; simp_all; done)
          | trace_state
end Go.VI.S
