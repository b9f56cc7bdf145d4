/- Chapter 16: comparisons of lists; the law AssembleRuns, evaluated. -/
import Derived.Test.YteodaifeknghaaaF16b
import Derived.Test.YteodaifeknghaaaF16c
set_option maxRecDepth 100000
set_option linter.unusedSimpArgs false
namespace Go.VI.S
open Go.VI
def rAt (l : List (List Int)) (j : Int) : List Int := l.getD j.toNat []
theorem encRs_get {l : List (List Int)} {j : Int} (h0 : 0 ≤ j) (h1 : j < l.length) : (encRs l)[j.toNat]? = some (.vs .any (ints (rAt l j))) := by
  have : j.toNat < l.length := by omega
  simp [encRs,encR,rAt,List.getElem?_eq_getElem this]
theorem sr_in {l : List (List Int)} {f1 f2 : Fl} {i : Nat} (hi : i < l.length) (hb : (rAt l i).length ≤ 1048576) {ks : List KI} {Q : PEx → Fr → Prop}
    (hpost : ∀ t,look t 0 = .vs f1 (encRs l) → look t 1 = .vs f2 (encRs l) → look t 5 = .int .i64 i → kQ E ks Q .norm { lvl := 0,tmps := mk 53 t,heap := [[]],defers := [] }) :
    ∀ (m k : Nat) (t : List (Nat × PV)),k + m = (rAt l i).length → look t 0 = .vs f1 (encRs l) → look t 1 = .vs f2 (encRs l) → look t 5 = .int .i64 i → look t 6 = .int .i64 k →
      kQ E (.code p20l1 :: .blk 2 :: ks) Q .norm { lvl := 0,tmps := mk 53 t,heap := [[]],defers := [] } := by
  intro m
  induction m with
  | zero =>
    intro k t hk h0 h1 h5 h6
    refine loopK' (c := p20l1) rfl ?_
    repeat' first | ((with_reducible first | refine cS ?_ ?_ | refine oS ?_ ?_ | refine dS ?_ ?_) <;> intro _) | ((with_reducible refine kk ?_ ?_); · rfl) | (simp -implicitDefEqProofs (disch := first | omega | assumption) only [push_cast,simprocAttr,eqTop,eqShL,eqSh,K_seq,h0,h1,h5,h6,encRs_len,encRs_get,ints_len,ints_get]) | ((with_reducible first | refine cB ?_ ?_ | refine oB ?_ ?_ | refine dB ?_ ?_) <;> intro _)
    exact hpost _ (by simp [look,look_keepL,h0]) (by simp [look,look_keepL,h1]) (by simp [look,look_keepL,h5])
  | succ m ih =>
    intro k t hk h0 h1 h5 h6
    refine loopK' (c := p20l1) rfl ?_
    repeat' first | ((with_reducible first | refine cS ?_ ?_ | refine oS ?_ ?_ | refine dS ?_ ?_) <;> intro _) | ((with_reducible refine kk ?_ ?_); · rfl) | (simp -implicitDefEqProofs (disch := first | omega | assumption) only [push_cast,simprocAttr,eqTop,eqShL,eqSh,K_seq,h0,h1,h5,h6,encRs_len,encRs_get,ints_len,ints_get]) | ((with_reducible first | refine cB ?_ ?_ | refine oB ?_ ?_ | refine dB ?_ ?_) <;> intro _)
    exact ih (k + 1) _ (by omega) (by simp [look,look_keepL,h0]) (by simp [look,look_keepL,h1]) (by simp [look,look_keepL,h5]) (by simp [look])
theorem sr_out {l : List (List Int)} {f1 f2 : Fl} (hl : l.length ≤ 1048576) (hb : ∀ i : Nat,i < l.length → (rAt l i).length ≤ 1048576) {ks : List KI} {Q : PEx → Fr → Prop}
    (hpost : ∀ t,kQ E ks Q .norm { lvl := 0,tmps := mk 53 t,heap := [[]],defers := [] }) :
    ∀ (m i : Nat) (t : List (Nat × PV)),i + m = l.length → look t 0 = .vs f1 (encRs l) → look t 1 = .vs f2 (encRs l) → look t 5 = .int .i64 i →
      kQ E (.code p20l0 :: .blk 0 :: ks) Q .norm { lvl := 0,tmps := mk 53 t,heap := [[]],defers := [] } := by
  intro m
  induction m with
  | zero =>
    intro i t hk h0 h1 h5
    refine loopK' (c := p20l0) rfl ?_
    repeat' first | ((with_reducible first | refine cS ?_ ?_ | refine oS ?_ ?_ | refine dS ?_ ?_) <;> intro _) | ((with_reducible refine kk ?_ ?_); · rfl) | (simp -implicitDefEqProofs (disch := first | omega | assumption) only [push_cast,simprocAttr,eqTop,eqShL,eqSh,K_seq,h0,h1,h5,encRs_len,encRs_get,ints_len,ints_get]) | ((with_reducible first | refine cB ?_ ?_ | refine oB ?_ ?_ | refine dB ?_ ?_) <;> intro _)
    exact hpost _
  | succ m ih =>
    intro i t hk h0 h1 h5
    have hi : i < l.length := by omega
    refine loopK' (c := p20l0) rfl ?_
    repeat' first | ((with_reducible first | refine cS ?_ ?_ | refine oS ?_ ?_ | refine dS ?_ ?_) <;> intro _) | ((with_reducible refine kk ?_ ?_); · rfl) | (simp -implicitDefEqProofs (disch := first | omega | assumption) only [push_cast,simprocAttr,eqTop,eqShL,eqSh,K_seq,h0,h1,h5,encRs_len,encRs_get,ints_len,ints_get]) | ((with_reducible first | refine cB ?_ ?_ | refine oB ?_ ?_ | refine dB ?_ ?_) <;> intro _)
    refine sr_in (l := l) (f1 := f1) (f2 := f2) (i := i) hi (hb i hi) ?_ (rAt l i).length 0 _ (by simp) (by simp [look,look_keepL,h0]) (by simp [look,look_keepL,h1]) (by simp [look,look_keepL,h5]) (by simp [look])
    intro t' h0' h1' h5'
    repeat' first | ((with_reducible first | refine cS ?_ ?_ | refine oS ?_ ?_ | refine dS ?_ ?_) <;> intro _) | ((with_reducible refine kk ?_ ?_); · rfl) | (simp -implicitDefEqProofs (disch := first | omega | assumption) only [push_cast,simprocAttr,eqTop,eqShL,eqSh,K_seq,h0',h1',h5']) | ((with_reducible first | refine cB ?_ ?_ | refine oB ?_ ?_ | refine dB ?_ ?_) <;> intro _)
    exact ih (i + 1) _ (by omega) (by simp [look,look_keepL,h0']) (by simp [look,look_keepL,h1']) (by simp [look])
theorem sameRuns_ok (f1 f2 : Fl) (l : List (List Int)) (hl : l.length ≤ 1048576) (hb : ∀ i : Nat,i < l.length → (rAt l i).length ≤ 1048576) (h : Heap) : doCall E (callR E) 20 [.vs f1 (encRs l),.vs f2 (encRs l)] h = some (.bool true,h) := by
  refine call_pure (pf := p20) rfl rfl rfl rfl (by simp [PV.lowL,PV.low]) (by simp [PV.low,PV.lowL]) ?_ h
  show kQ E _ (endQ [⟨4,none⟩] _) .norm { lvl := 0,tmps := mk 53 [(0,.vs f1 (encRs l)),(1,.vs f2 (encRs l))],heap := [[]],defers := [] }
  repeat' first | ((with_reducible first | refine cS ?_ ?_ | refine oS ?_ ?_ | refine dS ?_ ?_) <;> intro _) | ((with_reducible refine kk ?_ ?_); · rfl) | (simp -implicitDefEqProofs (disch := first | omega | assumption) only [push_cast,simprocAttr,eqTop,eqShL,eqSh,K_seq,encRs_len]) | ((with_reducible first | refine cB ?_ ?_ | refine oB ?_ ?_ | refine dB ?_ ?_) <;> intro _)
  refine sr_out (l := l) (f1 := f1) (f2 := f2) hl hb ?_ l.length 0 _ (by simp) (by simp [look,look_keepL]) (by simp [look,look_keepL]) (by simp [look])
  intro t
  repeat' first | ((with_reducible first | refine cS ?_ ?_ | refine oS ?_ ?_ | refine dS ?_ ?_) <;> intro _) | ((with_reducible refine kk ?_ ?_); · rfl) | (simp -implicitDefEqProofs (disch := first | omega | assumption) only [push_cast,simprocAttr,eqTop,eqShL,eqSh,K_seq]) | ((with_reducible first | refine cB ?_ ?_ | refine oB ?_ ?_ | refine dB ?_ ?_) <;> intro _)
theorem runsG_len : ∀ (zs run : List Int) (out : List (List Int)) (B : Nat),run.length + zs.length ≤ B → (∀ r ∈ out,r.length ≤ B) → ∀ r ∈ runsG zs run out,r.length ≤ B
  | [],run,out,B,h1,h2,r,hr => by
    unfold runsG at hr
    split at hr
    · exact h2 r hr
    · rcases List.mem_append.1 hr with hr | hr
      · exact h2 r hr
      · simp at hr; subst hr; simp at h1; omega
  | z :: zs,run,out,B,h1,h2,r,hr => by
    unfold runsG at hr
    simp only [List.length_cons] at h1
    split at hr
    · exact runsG_len zs _ _ B (by simp; omega) h2 r hr
    · split at hr
      · exact runsG_len zs _ _ B (by simp; omega) h2 r hr
      · refine runsG_len zs _ _ B (by simp; omega) (fun x hx => ?_) r hr
        rcases List.mem_append.1 hx with hx | hx
        · exact h2 x hx
        · simp at hx; subst hx; omega
theorem runsF_len (zs : List Int) : (runsF zs).length ≤ zs.length := by
  have := runs_bound zs [] []
  simpa [runsF] using this
theorem runsF_each (zs : List Int) (i : Nat) (hi : i < (runsF zs).length) : (rAt (runsF zs) i).length ≤ zs.length := by
  have : rAt (runsF zs) i ∈ runsF zs := by simp [rAt,List.getElem?_eq_getElem hi]
  exact runsG_len zs [] [] zs.length (by simp) (fun r hr => by cases hr) _ this
theorem law4 (f : Fl) (zs : List Int) (hz : zs.length ≤ 1048576) (h : Heap) : doCall E (callR E) 4 [.vs f (ints zs)] h = some (.bool true,h) := by
  have h1 := runsF_len zs
  have h2 : ∀ i : Nat,i < (runsF zs).length → (rAt (runsF zs) i).length ≤ 1048576 := fun i hi => Nat.le_trans (runsF_each zs i hi) hz
  have h3 := sameRuns_ok .any .any (runsF zs) (by omega) h2
  refine call_pure (pf := p4) rfl rfl rfl rfl (by simp [PV.lowL,PV.low]) (by simp [PV.low,PV.lowL]) ?_ h
  show kQ E _ (endQ [⟨2,none⟩] _) .norm { lvl := 0,tmps := mk 11 [(0,.vs f (ints zs))],heap := [[]],defers := [] }
  repeat' first | ((with_reducible first | refine cS ?_ ?_ | refine oS ?_ ?_ | refine dS ?_ ?_) <;> intro _) | ((with_reducible refine kk ?_ ?_); · rfl) | (simp -implicitDefEqProofs (disch := first | omega | assumption) only [push_cast,simprocAttr,eqTop,eqShL,eqSh,K_seq,ints_len,runs_ok,rruns_ok,h3,ex_ok]) | ((with_reducible first | refine cB ?_ ?_ | refine oB ?_ ?_ | refine dB ?_ ?_) <;> intro _)
end Go.VI.S
