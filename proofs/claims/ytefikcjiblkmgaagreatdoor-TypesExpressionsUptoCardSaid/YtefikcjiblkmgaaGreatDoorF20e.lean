/- Chapter 20: the sizes of structs, components, totals, offsets. -/
import Derived.Test.YtefikcjiblkmgaaGreatDoorF20d
import Derived.Test.YtefikcjiblkmgaaGreatDoorVC
set_option maxRecDepth 100000
set_option linter.unusedSimpArgs false
set_option linter.unusedVariables false
set_option pp.deepTerms.threshold 4
set_option pp.deepTerms false
namespace Go.VI.S
open Go.VI
theorem sum_own (m : Mod) (hm : m.Ok) (fl : Fl) (fs : List Fld) (hf : fs.length ≤ 1048576) (acc : List Int) (ha : acc.length ≤ 1048576) (hs : Small acc) (g : Nat) (os : List (Option Ob)) :
    doCall E (callR E) 74 [.agg m.c,.vs fl (flds fs),.sl (0,0) g 0 acc.length] [some (.mem (ints acc) g true 1) :: os] = some (.int .i64 (sumG m acc fs 0),[some (.mem (ints acc) g true 1) :: os]) := by
  have h1 := m.hm
  refine call_snap (pf := p74) (args' := [.agg m.c,.vs fl (flds fs),.vs .any (ints acc)]) rfl rfl (by simp [PV.lowL,PV.low,strs_low,flds_low,scts_low,funs_low,h1]; rfl) ?_ (by simp [PV.lowL,PV.low,strs_low,flds_low,scts_low,funs_low,h1,ints_low]) (sum_ok m hm fl .any fs hf acc ha hs _) rfl
  simp [mapO,snap,PV.low,PV.lowL,strs_low,flds_low,scts_low,funs_low,h1,hget,ints_len,ints_take]
theorem rsizes_loop (m : Mod) (hm : m.Ok) {ks : List KI} {Q : PEx → Fr → Prop}
    (hn : ∀ t g ob,look t 3 = .sl (0,0) g 0 (sizF m).length → kQ E ks Q .norm { lvl := 0,tmps := mk 25 t,heap := [[some (.mem (ints (sizF m)) g true 1),ob]],defers := [] }) :
    ∀ (rest pre : List Sct) (acc : List Int) (g : Nat) (ob : Option Ob) (t : List (Nat × PV)),m.ss = pre ++ rest → sizG m rest acc = sizF m → acc.length = pre.length → Small acc →
      look t 1 = .ip m.c → look t 3 = .sl (0,0) g 0 acc.length → look t 4 = .int .i64 pre.length →
      kQ E (.code p73l0 :: .blk 0 :: ks) Q .norm { lvl := 0,tmps := mk 25 t,heap := [[some (.mem (ints acc) g true 1),ob]],defers := [] } := by
  intro rest
  have pu74 : pureB E 74 = true := rfl
  have hss := hm.ss
  induction rest with
  | nil =>
    intro pre acc g ob t hl hi hal hsm h1 h3 h4
    have e : m.ss.length = pre.length := by rw [hl]; simp
    refine loopK' (c := p73l0) rfl ?_
    repeat' first | ((with_reducible first | refine cS ?_ ?_ | refine oS ?_ ?_ | refine dS ?_ ?_) <;> intro _) | ((with_reducible refine kk ?_ ?_); · rfl) | (simp -implicitDefEqProofs (disch := first | omega | assumption) only [push_cast,simprocAttr,eqTop,eqShL,eqSh,K_seq,h1,h3,h4,e]) | ((with_reducible first | refine cB ?_ ?_ | refine oB ?_ ?_ | refine dB ?_ ?_) <;> intro _)
    simp only [sizG] at hi
    subst hi
    exact hn _ _ _ (by simp [look,look_keepL,h3])
  | cons s r ih =>
    intro pre acc g ob t hl hi hal hsm h1 h3 h4
    have e : m.ss.length = pre.length + r.length + 1 := by rw [hl]; simp; omega
    have hg : (scts m.ss)[pre.length]? = some (.agg [.str s.name,.vs s.fl (flds s.fs)]) := by rw [hl]; exact get_at _ _ _ _
    have hf : s.fs.length ≤ 1048576 := hm.sf s (by rw [hl]; simp)
    have ha : acc.length ≤ 1048576 := by omega
    refine loopK' (c := p73l0) rfl ?_
    repeat' first | ((with_reducible first | refine cS ?_ ?_ | refine oS ?_ ?_ | refine dS ?_ ?_) <;> intro _) | ((with_reducible refine kk ?_ ?_); · rfl) | (simp -implicitDefEqProofs (disch := first | omega | assumption) only [push_cast,simprocAttr,eqTop,eqShL,eqSh,K_seq,h1,h3,h4,hg,sum_own,hm,ha,hsm,hf,ints_len,ints_take,ints_app,snap]) | ((with_reducible first | refine cB ?_ ?_ | refine oB ?_ ?_ | refine dB ?_ ?_) <;> intro _)
    refine ih (pre ++ [s]) (acc ++ [sumG m acc s.fs 0]) _ _ _ (by simp [hl]) (by rw [← hi]; rfl) (by simp [hal]) ?_ (by simp [look,look_keepL,h1]) (by simp [look,look_keepL]) (by simp [look,look_keepL])
    intro z hz
    have := sumG_bd (m := m) hsm s.fs 0 (by omega) (by omega)
    rcases List.mem_append.1 hz with hz | hz
    · exact hsm z hz
    · simp at hz; omega
theorem rsizes_ok (m : Mod) (hm : m.Ok) (h : Heap) : doCall E (callR E) 73 [.agg m.c] h = some (.vs .any (ints (sizF m)),h) := by
  have h1 := m.hm
  refine call_pure (pf := p73) rfl rfl rfl rfl (by simp [PV.lowL,PV.low,strs_low,flds_low,scts_low,funs_low,h1,ints_low]) (by simp [PV.low,PV.lowL,strs_low,flds_low,scts_low,funs_low,h1,ints_low]) ?_ h
  show kQ E _ (endQ [⟨2,none⟩] _) .norm { lvl := 0,tmps := mk 25 [(0,.agg m.c)],heap := [[none,none]],defers := [] }
  repeat' first | ((with_reducible first | refine cS ?_ ?_ | refine oS ?_ ?_ | refine dS ?_ ?_) <;> intro _) | ((with_reducible refine kk ?_ ?_); · rfl) | (simp -implicitDefEqProofs (disch := first | omega | assumption) only [push_cast,simprocAttr,eqTop,eqShL,eqSh,K_seq,h1,ints_low]) | ((with_reducible first | refine cB ?_ ?_ | refine oB ?_ ?_ | refine dB ?_ ?_) <;> intro _)
  refine rsizes_loop m hm ?_ m.ss [] [] _ _ _ rfl rfl rfl (fun z hz => by simp at hz) (by simp [look,look_keepL]) (by simp [look,look_keepL]) (by simp [look,look_keepL])
  intro t g ob h3
  repeat' first | ((with_reducible first | refine cS ?_ ?_ | refine oS ?_ ?_ | refine dS ?_ ?_) <;> intro _) | ((with_reducible refine kk ?_ ?_); · rfl) | (simp -implicitDefEqProofs (disch := first | omega | assumption) only [push_cast,simprocAttr,eqTop,eqShL,eqSh,K_seq,h3,ints_len,ints_take]) | ((with_reducible first | refine cB ?_ ?_ | refine oB ?_ ?_ | refine dB ?_ ?_) <;> intro _)
end Go.VI.S
