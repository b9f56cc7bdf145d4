/- Chapter 16: Edges returns the edges in order, whichever order the map's entries come in. -/
import Derived.Test.YteodaifeknghaaaF16l
set_option maxRecDepth 100000
set_option linter.unusedSimpArgs false
set_option linter.unusedVariables false
namespace Go.VI.S0
open Go.VI Go.VI.S
theorem edges_wp (f : Fl) (ts : List T3) (hts : ts.length ≤ 1048576) (lo : Nat) :
    WPc (g.at lo) p26.body { lvl := 0,tmps := [.vs f (encT ts)] ++ List.replicate (86 - 1) (.tuple []),heap := [List.replicate 8 none],defers := [] } fun ex fr => (ex = .norm ∨ ex = .ret) ∧ fr.defers = [] ∧ resultsE fr.heap fr.tmps p26.results = some (.vs .any (encE (edgesF ts))) ∧ (PV.vs .any (encE (edgesF ts))).low 0 = true := by
  have hE : ∀ k,EvSound (g.at lo) k := fun k => (all_sound g_ok k).1 lo
  unfold p26
  refine WPc.cln ?_
  show WPc _ _ { lvl := 0,tmps := keepE 0 (List.range [PV.vs f (encT ts)].length) ([.vs f (encT ts)] ++ List.replicate (86 - 1) (.tuple [])),heap := [List.replicate 8 none],defers := [] } _
  rw [start_eq]
  show WPc _ _ { lvl := 0,tmps := mk 86 [(0,.vs f (encT ts))],heap := [[none,none,none,none,none,none,none,none]],defers := [] } _
  refine WPc.seq (WPc.ev hE ?_)
  show kQ E _ _ .norm _
  repeat' first | ((with_reducible first | refine cS ?_ ?_ | refine oS ?_ ?_ | refine dS ?_ ?_) <;> intro _) | ((with_reducible refine kk ?_ ?_); · rfl) | (simp -implicitDefEqProofs (disch := first | omega | assumption) only [push_cast,simprocAttr,eqTop,eqShL,eqSh,K_seq]) | ((with_reducible first | refine cB ?_ ?_ | refine oB ?_ ?_ | refine dB ?_ ?_) <;> intro _)
  refine WPc.seq (WPc.ev hE ?_)
  show kQ E _ _ .norm _
  repeat' first | ((with_reducible first | refine cS ?_ ?_ | refine oS ?_ ?_ | refine dS ?_ ?_) <;> intro _) | ((with_reducible refine kk ?_ ?_); · rfl) | (simp -implicitDefEqProofs (disch := first | omega | assumption) only [push_cast,simprocAttr,eqTop,eqShL,eqSh,K_seq]) | ((with_reducible first | refine cB ?_ ?_ | refine oB ?_ ?_ | refine dB ?_ ?_) <;> intro _)
  refine WPc.seq (WPc.ev hE ?_)
  show kQ E _ _ .norm _
  repeat' first | ((with_reducible first | refine cS ?_ ?_ | refine oS ?_ ?_ | refine dS ?_ ?_) <;> intro _) | ((with_reducible refine kk ?_ ?_); · rfl) | (simp -implicitDefEqProofs (disch := first | omega | assumption) only [push_cast,simprocAttr,eqTop,eqShL,eqSh,K_seq]) | ((with_reducible first | refine cB ?_ ?_ | refine oB ?_ ?_ | refine dB ?_ ?_) <;> intro _)
  refine WPc.seq (WPc.ev hE ?_)
  show kQ E _ _ .norm _
  repeat' first | ((with_reducible first | refine cS ?_ ?_ | refine oS ?_ ?_ | refine dS ?_ ?_) <;> intro _) | ((with_reducible refine kk ?_ ?_); · rfl) | (simp -implicitDefEqProofs (disch := first | omega | assumption) only [push_cast,simprocAttr,eqTop,eqShL,eqSh,K_seq]) | ((with_reducible first | refine cB ?_ ?_ | refine oB ?_ ?_ | refine dB ?_ ?_) <;> intro _)
  refine WPc.seq (WPc.ev hE ?_)
  show kQ E _ _ .norm _
  repeat' first | ((with_reducible first | refine cS ?_ ?_ | refine oS ?_ ?_ | refine dS ?_ ?_) <;> intro _) | ((with_reducible refine kk ?_ ?_); · rfl) | (simp -implicitDefEqProofs (disch := first | omega | assumption) only [push_cast,simprocAttr,eqTop,eqShL,eqSh,K_seq,encT_len]) | ((with_reducible first | refine cB ?_ ?_ | refine oB ?_ ?_ | refine dB ?_ ?_) <;> intro _)
  refine out_loop (f := f) (ts := ts) hts (fin := foldE ts 0 ([],[])) ?_ ts [] ([],[]) 0 0 none none _ rfl rfl (by simp [getA]) rfl rfl (by simp [look]) (by simp [look]) (by simp [look]) (by simp [look]) (by simp [look]) (by simp [look])
  intro l c1 c2 ob3 ob4 e1 e2 h3 h5
  repeat' first | ((with_reducible first | refine cS ?_ ?_ | refine oS ?_ ?_ | refine dS ?_ ?_) <;> intro _) | ((with_reducible refine kk ?_ ?_); · rfl) | (simp -implicitDefEqProofs (disch := first | omega | assumption) only [push_cast,simprocAttr,eqTop,eqShL,eqSh,K_seq]) | ((with_reducible first | refine cB ?_ ?_ | refine oB ?_ ?_ | refine dB ?_ ?_) <;> intro _)
  refine WPc.cln ?_
  rw [keep_fr (by rfl)]
  refine WPc.seq (WPc.seq (WPc.ev hE ?_))
  show kQ E _ _ .norm _
  repeat' first | ((with_reducible first | refine cS ?_ ?_ | refine oS ?_ ?_ | refine dS ?_ ?_) <;> intro _) | ((with_reducible refine kk ?_ ?_); · rfl) | (simp -implicitDefEqProofs (disch := first | omega | assumption) only [push_cast,simprocAttr,eqTop,eqShL,eqSh,K_seq,h3]) | ((with_reducible first | refine cB ?_ ?_ | refine oB ?_ ?_ | refine dB ?_ ?_) <;> intro _)
  have e1' : c1 = (encM (cntF ts)).length := by rw [e1,encM_len]; rfl
  subst e1'
  have hA : (cntF ts).length ≤ 4194304 := by
    have := fold_len ts 0 ([],[])
    simp at this
    unfold cntF
    omega
  unfold p26l2
  refine WPc.mapLoop g_ok (n := (0,5)) (m := (0,0)) (gi := 1) (gm := 1) (es := encM (cntF ts)) (InvE (cntF ts) (some (.map (encM (foldE ts 0 ([],[])).2) c2 1)) ob3 ob4) ?_ ?_ ?_ ?_
  · refine ⟨1,none,_,rfl, ?_, ?_,.nil,by simp⟩
    · simp [look,look_keepL,h5,pick2]
    · simp [look]
  · rintro seen fr ⟨g5,ob6,l',rfl,h5',h72',hnd,hlt⟩
    refine ⟨?_,rfl,rfl,by decide, ?_, ?_⟩
    · show (mk 86 l').getD 72 .junk = _
      rw [mk_get]
      simp [h72']
    · simp [mk_len]
    · simp [mk_len]
  · intro seen fr i e hinv he hns
    exact range_step (cntF ts) hA _ ob3 ob4 seen fr i e hinv he hns
  · rintro seen fr ⟨g5,ob6,l',rfl,h5',h72',hnd,hlt⟩ hall
    rw [encM_len] at hall
    rw [keep_fr (by rfl)]
    unfold overFr
    simp only [Fr.put,mk_set]
    refine WPc.cln ?_
    rw [keep_fr (by rfl)]
    refine WPc.ev hE ?_
    show kQ E _ _ .norm _
    have hsort := sorted_ok (cntF ts).length (pick2 (cntF ts) seen) (Nat.le_trans pick2_len (nodup_le _ _ hnd hlt)) (Nat.le_trans (Nat.le_trans pick2_len (nodup_le _ _ hnd hlt)) (by omega))
    rw [sorted_any ts hnd hlt hall] at hsort
    repeat' first | ((with_reducible first | refine cS ?_ ?_ | refine oS ?_ ?_ | refine dS ?_ ?_) <;> intro _) | ((with_reducible refine kk ?_ ?_); · rfl) | (simp -implicitDefEqProofs (disch := first | omega | assumption) only [push_cast,simprocAttr,eqTop,eqShL,eqSh,K_seq,h5',encE_len,encE_take,hsort,encE_low]) | ((with_reducible first | refine cB ?_ ?_ | refine oB ?_ ?_ | refine dB ?_ ?_) <;> intro _)
def triO : PV → Option T3
  | .agg [.int .i64 a,.int .i64 b,.int .i64 c] => some (a,b,c)
  | _ => none
theorem triO_some {v : PV} {t : T3} (h : triO v = some t) : v = .agg [.int .i64 t.1,.int .i64 t.2.1,.int .i64 t.2.2] := by
  unfold triO at h
  split at h
  · simp only [Option.some.injEq] at h
    subst h
    rfl
  · cases h
theorem triO_enc (t : T3) : triO (.agg [.int .i64 t.1,.int .i64 t.2.1,.int .i64 t.2.2]) = some t := rfl
theorem mapO_tri : ∀ {L : List PV} {ts : List T3},mapO triO L = some ts → L = encT ts
  | [],ts,h => by simp [mapO] at h; subst h; rfl
  | v :: r,ts,h => by
    simp only [mapO] at h
    split at h
    · cases h
    · rename_i t ht
      split at h <;> simp only [Option.some.injEq,reduceCtorEq] at h
      rename_i ts' hts
      subst h
      rw [mapO_tri hts,triO_some ht]
      rfl
theorem mapO_enc : ∀ (ts : List T3),mapO triO (encT ts) = some ts
  | [] => rfl
  | t :: r => by
    show mapO triO (_ :: encT r) = _
    rw [mapO,triO_enc,mapO_enc r]
def edgesV (args : List PV) : Option PV :=
  match args with
  | [.vs _ L] => if L.length ≤ 1048576 then (mapO triO L).map fun ts => .vs .any (encE (edgesF ts)) else none
  | _ => none
theorem edges_ext {args : List PV} {v : PV} (hv : edgesV args = some v) {h : Heap} {c : Ctx} {w : World} {vs : Array Value} (hs : HS g c w h) (hl : LRel c w args vs) : Calls g.P 26 vs w (CallR g c w (h ++ [[]]) v) := by
  unfold edgesV at hv
  split at hv
  case h_2 => cases hv
  rename_i f L
  split at hv
  case isFalse => cases hv
  rename_i hL
  simp only [Option.map_eq_some_iff] at hv
  obtain ⟨ts,hts,rfl⟩ := hv
  have := mapO_tri hts
  subst this
  rw [encT_len] at hL
  exact ext_call g_ok (pf := p26) rfl rfl (by simp [PV.lowL,PV.low]) hs hl fun lo => edges_wp f ts hL lo
end Go.VI.S0
