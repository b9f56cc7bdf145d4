/- Chapter 16: the reference's edges, walked; the law AssembleEdges, evaluated. -/
import Derived.Test.YteodaifeknghaaaF16r
set_option maxRecDepth 100000
set_option linter.unusedSimpArgs false
set_option linter.unusedVariables false
namespace Go.VI.S
open Go.VI
open Go.VI.S0 (T2 ed lessF encE encE_len encE_take encE_hsz encE_apps encE_cons' encE_app' encE_nil encE_takeN encE_dropN encE_low eOf sel Srt less_iff hasE usesF edgesF)
set_option maxHeartbeats 4000000 in
theorem re_in {f : Fl} {ts pre rest : List T3} (hts : ts.length ≤ 1048576) {a b c : Int} (hp : ts = pre ++ (a,b,c) :: rest) {ks : List KI} {Q : PEx → Fr → Prop} {fin : List T2}
    (hpost : ∀ l ob,look l 0 = .vs f (encT ts) → look l 3 = .vs (flE fin) (encE fin) → look l 4 = .int .i64 pre.length → kQ E ks Q .norm { lvl := 0,tmps := mk 53 l,heap := [[ob]],defers := [] }) :
    ∀ (m k : Nat) (o : List T2) (ob : Option Ob) (l : List (Nat × PV)),k + m = 3 → refK ts (a,b,c) m k o = fin → o.length ≤ 3 * pre.length + k →
      look l 0 = .vs f (encT ts) → look l 3 = .vs (flE o) (encE o) → look l 4 = .int .i64 pre.length → look l 5 = .int .i64 k →
      kQ E (.code p27l1 :: .blk 2 :: ks) Q .norm { lvl := 0,tmps := mk 53 l,heap := [[ob]],defers := [] } := by
  have hlen : ts.length = pre.length + rest.length + 1 := by rw [hp]; simp; omega
  have hg := encT_get' hp
  intro m
  induction m with
  | zero =>
    intro k o ob l hk hf hB h0 h3 h4 h5
    have hk3 : k = 3 := by omega
    subst hk3
    have hs : o = fin := hf
    subst hs
    refine loopK' (c := p27l1) rfl ?_
    repeat' first | ((with_reducible first | refine cS ?_ ?_ | refine oS ?_ ?_ | refine dS ?_ ?_) <;> intro _) | ((with_reducible refine kk ?_ ?_); · rfl) | (simp -implicitDefEqProofs (disch := first | omega | assumption) only [push_cast,simprocAttr,eqTop,eqShL,eqSh,K_seq,h5]) | ((with_reducible first | refine cB ?_ ?_ | refine oB ?_ ?_ | refine dB ?_ ?_) <;> intro _)
    exact hpost _ _ (by simp [look,look_keepL,h0]) (by simp [look,look_keepL,h3]) (by simp [look,look_keepL,h4])
  | succ m ih =>
    intro k o ob l hk hf hB h0 h3 h4 h5
    have hkk : k = 0 ∨ k = 1 ∨ k = 2 := by omega
    rcases hkk with rfl | rfl | rfl
    · have h5 : look l 5 = .int .i64 0 := h5
      have hst : refK ts (a,b,c) m 1 (refS ts a b o) = fin := hf
      by_cases hab : a = b
      · subst hab
        have hs : refS ts a a o = o := if_neg (by simp)
        rw [hs] at hst
        refine loopK' (c := p27l1) rfl ?_
        repeat' first | ((with_reducible first | refine cS ?_ ?_ | refine oS ?_ ?_ | refine dS ?_ ?_) <;> intro _) | ((with_reducible refine kk ?_ ?_); · rfl) | (simp -implicitDefEqProofs (disch := first | omega | assumption) only [push_cast,simprocAttr,eqTop,eqShL,eqSh,K_seq,h0,h3,h4,h5,hlen,Int.toNat_natCast,hg,encT_len]) | ((with_reducible first | refine cB ?_ ?_ | refine oB ?_ ?_ | refine dB ?_ ?_) <;> intro _)
        exact ih 1 o _ _ (by omega) hst (by omega) (by simp [look,look_keepL,h0]) (by simp [look,look_keepL,h3]) (by simp [look,look_keepL,h4]) (by simp [look])
      · by_cases hu : usesR ts (if b < a then b else a) (if b > a then b else a) = 2
        · have hs : refS ts a b o = insF o (eOf a b) := if_pos ⟨hab,hu⟩
          rw [hs] at hst
          have hw := with_ok o (by omega) (if b < a then b else a) (if b > a then b else a)
          have hu' : ((usesR ts (if b < a then b else a) (if b > a then b else a) : Nat) : Int) = 2 := by rw [hu]; rfl
          refine loopK' (c := p27l1) rfl ?_
          repeat' first | ((with_reducible first | refine cS ?_ ?_ | refine oS ?_ ?_ | refine dS ?_ ?_) <;> intro _) | ((with_reducible refine kk ?_ ?_); · rfl) | (simp -implicitDefEqProofs (disch := first | omega | assumption) only [push_cast,simprocAttr,eqTop,eqShL,eqSh,K_seq,h0,h3,h4,h5,hlen,Int.toNat_natCast,hg,encT_len,hab,uses_ok,hts,hu',hw]) | ((with_reducible first | refine cB ?_ ?_ | refine oB ?_ ?_ | refine dB ?_ ?_) <;> intro _)
          refine ih 1 (insF o (eOf a b)) _ _ (by omega) hst (by have := insF_len (e := eOf a b) (l := o); omega) (by simp [look,look_keepL,h0]) (by rw [flE_ins]; simp [look,look_keepL,eOf]) (by simp [look,look_keepL,h4]) (by simp [look])
        · have hs : refS ts a b o = o := if_neg fun h => hu h.2
          rw [hs] at hst
          have hu' : ¬ ((usesR ts (if b < a then b else a) (if b > a then b else a) : Nat) : Int) = 2 := fun h => hu (by omega)
          refine loopK' (c := p27l1) rfl ?_
          repeat' first | ((with_reducible first | refine cS ?_ ?_ | refine oS ?_ ?_ | refine dS ?_ ?_) <;> intro _) | ((with_reducible refine kk ?_ ?_); · rfl) | (simp -implicitDefEqProofs (disch := first | omega | assumption) only [push_cast,simprocAttr,eqTop,eqShL,eqSh,K_seq,h0,h3,h4,h5,hlen,Int.toNat_natCast,hg,encT_len,hab,uses_ok,hts,hu']) | ((with_reducible first | refine cB ?_ ?_ | refine oB ?_ ?_ | refine dB ?_ ?_) <;> intro _)
          exact ih 1 o _ _ (by omega) hst (by omega) (by simp [look,look_keepL,h0]) (by simp [look,look_keepL,h3]) (by simp [look,look_keepL,h4]) (by simp [look])
    · have h5 : look l 5 = .int .i64 1 := h5
      have hst : refK ts (a,b,c) m 2 (refS ts b c o) = fin := hf
      by_cases hab : b = c
      · subst hab
        have hs : refS ts b b o = o := if_neg (by simp)
        rw [hs] at hst
        refine loopK' (c := p27l1) rfl ?_
        repeat' first | ((with_reducible first | refine cS ?_ ?_ | refine oS ?_ ?_ | refine dS ?_ ?_) <;> intro _) | ((with_reducible refine kk ?_ ?_); · rfl) | (simp -implicitDefEqProofs (disch := first | omega | assumption) only [push_cast,simprocAttr,eqTop,eqShL,eqSh,K_seq,h0,h3,h4,h5,hlen,Int.toNat_natCast,hg,encT_len]) | ((with_reducible first | refine cB ?_ ?_ | refine oB ?_ ?_ | refine dB ?_ ?_) <;> intro _)
        exact ih 2 o _ _ (by omega) hst (by omega) (by simp [look,look_keepL,h0]) (by simp [look,look_keepL,h3]) (by simp [look,look_keepL,h4]) (by simp [look])
      · by_cases hu : usesR ts (if c < b then c else b) (if c > b then c else b) = 2
        · have hs : refS ts b c o = insF o (eOf b c) := if_pos ⟨hab,hu⟩
          rw [hs] at hst
          have hw := with_ok o (by omega) (if c < b then c else b) (if c > b then c else b)
          have hu' : ((usesR ts (if c < b then c else b) (if c > b then c else b) : Nat) : Int) = 2 := by rw [hu]; rfl
          refine loopK' (c := p27l1) rfl ?_
          repeat' first | ((with_reducible first | refine cS ?_ ?_ | refine oS ?_ ?_ | refine dS ?_ ?_) <;> intro _) | ((with_reducible refine kk ?_ ?_); · rfl) | (simp -implicitDefEqProofs (disch := first | omega | assumption) only [push_cast,simprocAttr,eqTop,eqShL,eqSh,K_seq,h0,h3,h4,h5,hlen,Int.toNat_natCast,hg,encT_len,hab,uses_ok,hts,hu',hw]) | ((with_reducible first | refine cB ?_ ?_ | refine oB ?_ ?_ | refine dB ?_ ?_) <;> intro _)
          refine ih 2 (insF o (eOf b c)) _ _ (by omega) hst (by have := insF_len (e := eOf b c) (l := o); omega) (by simp [look,look_keepL,h0]) (by rw [flE_ins]; simp [look,look_keepL,eOf]) (by simp [look,look_keepL,h4]) (by simp [look])
        · have hs : refS ts b c o = o := if_neg fun h => hu h.2
          rw [hs] at hst
          have hu' : ¬ ((usesR ts (if c < b then c else b) (if c > b then c else b) : Nat) : Int) = 2 := fun h => hu (by omega)
          refine loopK' (c := p27l1) rfl ?_
          repeat' first | ((with_reducible first | refine cS ?_ ?_ | refine oS ?_ ?_ | refine dS ?_ ?_) <;> intro _) | ((with_reducible refine kk ?_ ?_); · rfl) | (simp -implicitDefEqProofs (disch := first | omega | assumption) only [push_cast,simprocAttr,eqTop,eqShL,eqSh,K_seq,h0,h3,h4,h5,hlen,Int.toNat_natCast,hg,encT_len,hab,uses_ok,hts,hu']) | ((with_reducible first | refine cB ?_ ?_ | refine oB ?_ ?_ | refine dB ?_ ?_) <;> intro _)
          exact ih 2 o _ _ (by omega) hst (by omega) (by simp [look,look_keepL,h0]) (by simp [look,look_keepL,h3]) (by simp [look,look_keepL,h4]) (by simp [look])
    · have h5 : look l 5 = .int .i64 2 := h5
      have hst : refK ts (a,b,c) m 3 (refS ts c a o) = fin := hf
      by_cases hab : c = a
      · subst hab
        have hs : refS ts c c o = o := if_neg (by simp)
        rw [hs] at hst
        refine loopK' (c := p27l1) rfl ?_
        repeat' first | ((with_reducible first | refine cS ?_ ?_ | refine oS ?_ ?_ | refine dS ?_ ?_) <;> intro _) | ((with_reducible refine kk ?_ ?_); · rfl) | (simp -implicitDefEqProofs (disch := first | omega | assumption) only [push_cast,simprocAttr,eqTop,eqShL,eqSh,K_seq,h0,h3,h4,h5,hlen,Int.toNat_natCast,hg,encT_len]) | ((with_reducible first | refine cB ?_ ?_ | refine oB ?_ ?_ | refine dB ?_ ?_) <;> intro _)
        exact ih 3 o _ _ (by omega) hst (by omega) (by simp [look,look_keepL,h0]) (by simp [look,look_keepL,h3]) (by simp [look,look_keepL,h4]) (by simp [look])
      · by_cases hu : usesR ts (if a < c then a else c) (if a > c then a else c) = 2
        · have hs : refS ts c a o = insF o (eOf c a) := if_pos ⟨hab,hu⟩
          rw [hs] at hst
          have hw := with_ok o (by omega) (if a < c then a else c) (if a > c then a else c)
          have hu' : ((usesR ts (if a < c then a else c) (if a > c then a else c) : Nat) : Int) = 2 := by rw [hu]; rfl
          refine loopK' (c := p27l1) rfl ?_
          repeat' first | ((with_reducible first | refine cS ?_ ?_ | refine oS ?_ ?_ | refine dS ?_ ?_) <;> intro _) | ((with_reducible refine kk ?_ ?_); · rfl) | (simp -implicitDefEqProofs (disch := first | omega | assumption) only [push_cast,simprocAttr,eqTop,eqShL,eqSh,K_seq,h0,h3,h4,h5,hlen,Int.toNat_natCast,hg,encT_len,hab,uses_ok,hts,hu',hw]) | ((with_reducible first | refine cB ?_ ?_ | refine oB ?_ ?_ | refine dB ?_ ?_) <;> intro _)
          refine ih 3 (insF o (eOf c a)) _ _ (by omega) hst (by have := insF_len (e := eOf c a) (l := o); omega) (by simp [look,look_keepL,h0]) (by rw [flE_ins]; simp [look,look_keepL,eOf]) (by simp [look,look_keepL,h4]) (by simp [look])
        · have hs : refS ts c a o = o := if_neg fun h => hu h.2
          rw [hs] at hst
          have hu' : ¬ ((usesR ts (if a < c then a else c) (if a > c then a else c) : Nat) : Int) = 2 := fun h => hu (by omega)
          refine loopK' (c := p27l1) rfl ?_
          repeat' first | ((with_reducible first | refine cS ?_ ?_ | refine oS ?_ ?_ | refine dS ?_ ?_) <;> intro _) | ((with_reducible refine kk ?_ ?_); · rfl) | (simp -implicitDefEqProofs (disch := first | omega | assumption) only [push_cast,simprocAttr,eqTop,eqShL,eqSh,K_seq,h0,h3,h4,h5,hlen,Int.toNat_natCast,hg,encT_len,hab,uses_ok,hts,hu']) | ((with_reducible first | refine cB ?_ ?_ | refine oB ?_ ?_ | refine dB ?_ ?_) <;> intro _)
          exact ih 3 o _ _ (by omega) hst (by omega) (by simp [look,look_keepL,h0]) (by simp [look,look_keepL,h3]) (by simp [look,look_keepL,h4]) (by simp [look])
theorem re_out {f : Fl} {ts : List T3} (hts : ts.length ≤ 1048576) {ks : List KI} {Q : PEx → Fr → Prop} {fin : List T2}
    (hpost : ∀ l ob,look l 3 = .vs (flE fin) (encE fin) → kQ E ks Q .norm { lvl := 0,tmps := mk 53 l,heap := [[ob]],defers := [] }) :
    ∀ (rest pre : List T3) (o : List T2) (ob : Option Ob) (l : List (Nat × PV)),ts = pre ++ rest → refA ts rest o = fin → o.length ≤ 3 * pre.length →
      look l 0 = .vs f (encT ts) → look l 3 = .vs (flE o) (encE o) → look l 4 = .int .i64 pre.length →
      kQ E (.code p27l0 :: .blk 0 :: ks) Q .norm { lvl := 0,tmps := mk 53 l,heap := [[ob]],defers := [] } := by
  intro rest
  induction rest with
  | nil =>
    intro pre o ob l hp hf hB h0 h3 h4
    have hlen : ts.length = pre.length := by rw [hp]; simp
    have hs : o = fin := hf
    subst hs
    refine loopK' (c := p27l0) rfl ?_
    repeat' first | ((with_reducible first | refine cS ?_ ?_ | refine oS ?_ ?_ | refine dS ?_ ?_) <;> intro _) | ((with_reducible refine kk ?_ ?_); · rfl) | (simp -implicitDefEqProofs (disch := first | omega | assumption) only [push_cast,simprocAttr,eqTop,eqShL,eqSh,K_seq,h0,h3,h4,encT_len,hlen]) | ((with_reducible first | refine cB ?_ ?_ | refine oB ?_ ?_ | refine dB ?_ ?_) <;> intro _)
    exact hpost _ _ (by simp [look,look_keepL,h3])
  | cons t rest ih =>
    intro pre o ob l hp hf hB h0 h3 h4
    have hlen : ts.length = pre.length + rest.length + 1 := by rw [hp]; simp; omega
    obtain ⟨a,b,c⟩ := t
    refine loopK' (c := p27l0) rfl ?_
    repeat' first | ((with_reducible first | refine cS ?_ ?_ | refine oS ?_ ?_ | refine dS ?_ ?_) <;> intro _) | ((with_reducible refine kk ?_ ?_); · rfl) | (simp -implicitDefEqProofs (disch := first | omega | assumption) only [push_cast,simprocAttr,eqTop,eqShL,eqSh,K_seq,h0,h3,h4,encT_len,hlen]) | ((with_reducible first | refine cB ?_ ?_ | refine oB ?_ ?_ | refine dB ?_ ?_) <;> intro _)
    refine re_in (f := f) hts hp (fin := refK ts (a,b,c) 3 0 o) ?_ 3 0 o _ _ rfl rfl (by omega) (by simp [look,look_keepL,h0]) (by simp [look,look_keepL,h3]) (by simp [look,look_keepL,h4]) (by simp [look])
    intro l' ob' h0' h3' h4'
    repeat' first | ((with_reducible first | refine cS ?_ ?_ | refine oS ?_ ?_ | refine dS ?_ ?_) <;> intro _) | ((with_reducible refine kk ?_ ?_); · rfl) | (simp -implicitDefEqProofs (disch := first | omega | assumption) only [push_cast,simprocAttr,eqTop,eqShL,eqSh,K_seq,h0',h3',h4']) | ((with_reducible first | refine cB ?_ ?_ | refine oB ?_ ?_ | refine dB ?_ ?_) <;> intro _)
    exact ih (pre ++ [(a,b,c)]) (refK ts (a,b,c) 3 0 o) _ _ (by simp [hp]) hf (by have := refK_len (ts := ts) (t := (a,b,c)) 3 0 o; simp; omega) (by simp [look,look_keepL,h0']) (by simp [look,look_keepL,h3']) (by simp [look])
theorem redges_ok (f : Fl) (ts : List T3) (hts : ts.length ≤ 1048576) (h : Heap) : doCall E (callR E) 27 [.vs f (encT ts)] h = some (.vs (flE (edgesF ts)) (encE (edgesF ts)),h) := by
  refine call_pure (pf := p27) rfl rfl rfl rfl (by simp [PV.lowL,PV.low]) (by simp [PV.low,PV.lowL]) ?_ h
  show kQ E _ (endQ [⟨2,none⟩] _) .norm { lvl := 0,tmps := mk 53 [(0,.vs f (encT ts))],heap := [[none]],defers := [] }
  repeat' first | ((with_reducible first | refine cS ?_ ?_ | refine oS ?_ ?_ | refine dS ?_ ?_) <;> intro _) | ((with_reducible refine kk ?_ ?_); · rfl) | (simp -implicitDefEqProofs (disch := first | omega | assumption) only [push_cast,simprocAttr,eqTop,eqShL,eqSh,K_seq]) | ((with_reducible first | refine cB ?_ ?_ | refine oB ?_ ?_ | refine dB ?_ ?_) <;> intro _)
  refine re_out (f := f) hts (fin := edgesF ts) ?_ ts [] [] none _ rfl (ref_eq ts) (by simp) (by simp [look,look_keepL]) (by simp [look,look_keepL,flE,encE_nil]) (by simp [look])
  intro l ob h3
  repeat' first | ((with_reducible first | refine cS ?_ ?_ | refine oS ?_ ?_ | refine dS ?_ ?_) <;> intro _) | ((with_reducible refine kk ?_ ?_); · rfl) | (simp -implicitDefEqProofs (disch := first | omega | assumption) only [push_cast,simprocAttr,eqTop,eqShL,eqSh,K_seq,h3]) | ((with_reducible first | refine cB ?_ ?_ | refine oB ?_ ?_ | refine dB ?_ ?_) <;> intro _)
theorem encE_get {l : List T2} {j : Nat} (h : j < l.length) : (encE l)[j]? = some (.agg [.int .i64 l[j].1,.int .i64 l[j].2]) := by
  simp [encE,ed,h]
theorem se_loop {l : List T2} {f1 f2 : Fl} (hl : l.length ≤ 16777216) {ks : List KI} {Q : PEx → Fr → Prop}
    (hpost : ∀ t,kQ E ks Q .norm { lvl := 0,tmps := mk 26 t,heap := [[]],defers := [] }) :
    ∀ (m i : Nat) (t : List (Nat × PV)),i + m = l.length → look t 0 = .vs f1 (encE l) → look t 1 = .vs f2 (encE l) → look t 5 = .int .i64 i →
      kQ E (.code p25l0 :: .blk 0 :: ks) Q .norm { lvl := 0,tmps := mk 26 t,heap := [[]],defers := [] } := by
  intro m
  induction m with
  | zero =>
    intro i t hi h0 h1 h5
    have hlen : l.length = i := by omega
    refine loopK' (c := p25l0) rfl ?_
    repeat' first | ((with_reducible first | refine cS ?_ ?_ | refine oS ?_ ?_ | refine dS ?_ ?_) <;> intro _) | ((with_reducible refine kk ?_ ?_); · rfl) | (simp -implicitDefEqProofs (disch := first | omega | assumption) only [push_cast,simprocAttr,eqTop,eqShL,eqSh,K_seq,h0,h1,h5,encE_len,hlen]) | ((with_reducible first | refine cB ?_ ?_ | refine oB ?_ ?_ | refine dB ?_ ?_) <;> intro _)
    exact hpost _
  | succ m ih =>
    intro i t hi h0 h1 h5
    have hg := encE_get (l := l) (j := i) (by omega)
    have hlt : (i : Int) < (l.length : Int) := by omega
    refine loopK' (c := p25l0) rfl ?_
    repeat' first | ((with_reducible first | refine cS ?_ ?_ | refine oS ?_ ?_ | refine dS ?_ ?_) <;> intro _) | ((with_reducible refine kk ?_ ?_); · rfl) | (simp -implicitDefEqProofs (disch := first | omega | assumption) only [push_cast,simprocAttr,eqTop,eqShL,eqSh,K_seq,h0,h1,h5,encE_len,Int.toNat_natCast,hg,hlt]) | ((with_reducible first | refine cB ?_ ?_ | refine oB ?_ ?_ | refine dB ?_ ?_) <;> intro _)
    exact ih (i + 1) _ (by omega) (by simp [look,look_keepL,h0]) (by simp [look,look_keepL,h1]) (by simp [look])
theorem sameE_ok (f1 f2 : Fl) (l : List T2) (hl : l.length ≤ 16777216) (h : Heap) : doCall E (callR E) 25 [.vs f1 (encE l),.vs f2 (encE l)] h = some (.bool true,h) := by
  refine call_pure (pf := p25) rfl rfl rfl rfl (by simp [PV.lowL,PV.low]) (by simp [PV.low,PV.lowL]) ?_ h
  show kQ E _ (endQ [⟨4,none⟩] _) .norm { lvl := 0,tmps := mk 26 [(0,.vs f1 (encE l)),(1,.vs f2 (encE l))],heap := [[]],defers := [] }
  repeat' first | ((with_reducible first | refine cS ?_ ?_ | refine oS ?_ ?_ | refine dS ?_ ?_) <;> intro _) | ((with_reducible refine kk ?_ ?_); · rfl) | (simp -implicitDefEqProofs (disch := first | omega | assumption) only [push_cast,simprocAttr,eqTop,eqShL,eqSh,K_seq,encE_len]) | ((with_reducible first | refine cB ?_ ?_ | refine oB ?_ ?_ | refine dB ?_ ?_) <;> intro _)
  refine se_loop (f1 := f1) (f2 := f2) hl ?_ l.length 0 _ (by omega) (by simp [look,look_keepL]) (by simp [look,look_keepL]) (by simp [look])
  intro t
  repeat' first | ((with_reducible first | refine cS ?_ ?_ | refine oS ?_ ?_ | refine dS ?_ ?_) <;> intro _) | ((with_reducible refine kk ?_ ?_); · rfl) | (simp -implicitDefEqProofs (disch := first | omega | assumption) only [push_cast,simprocAttr,eqTop,eqShL,eqSh,K_seq]) | ((with_reducible first | refine cB ?_ ?_ | refine oB ?_ ?_ | refine dB ?_ ?_) <;> intro _)
theorem edges_len (ts : List T3) : (edgesF ts).length ≤ 3 * ts.length := by
  have key : ∀ (r : List T3) (o : List T2),(refA ts r o).length ≤ o.length + 3 * r.length := by
    intro r
    induction r with
    | nil => intro o; simp [refA]
    | cons t r ih =>
      intro o
      have h1 := ih (refK ts t 3 0 o)
      have h2 := refK_len (ts := ts) (t := t) 3 0 o
      show (refA ts r _).length ≤ _
      simp only [List.length_cons]
      omega
  have := key ts []
  rw [ref_eq] at this
  simpa using this
theorem edges_ok' (f : Fl) (ts : List T3) (hts : ts.length ≤ 1048576) (h : Heap) : doCall E (callR E) 26 [.vs f (encT ts)] h = some (.vs .any (encE (edgesF ts)),h) := edges_ok f ts hts h
theorem law8 (f : Fl) (ts : List T3) (hts : ts.length ≤ 1048576) (h : Heap) : doCall E (callR E) 8 [.vs f (encT ts)] h = some (.bool true,h) := by
  have hlow : PV.lowL 0 (encT ts) = true := by unfold encT; exact lowL_map _ (fun p => tri_low) _
  have hl := edges_len ts
  refine call_pure (pf := p8) rfl rfl rfl rfl (by simp [PV.lowL,PV.low]) (by simp [PV.low,PV.lowL]) ?_ h
  show kQ E _ (endQ [⟨2,none⟩] _) .norm { lvl := 0,tmps := mk 11 [(0,.vs f (encT ts))],heap := [[]],defers := [] }
  repeat' first | ((with_reducible first | refine cS ?_ ?_ | refine oS ?_ ?_ | refine dS ?_ ?_) <;> intro _) | ((with_reducible refine kk ?_ ?_); · rfl) | (simp -implicitDefEqProofs (disch := first | omega | assumption) only [push_cast,simprocAttr,eqTop,eqShL,eqSh,K_seq,edges_ok',redges_ok,sameE_ok,hts,ex_ok]) | ((with_reducible first | refine cB ?_ ?_ | refine oB ?_ ?_ | refine dB ?_ ?_) <;> intro _)
end Go.VI.S
