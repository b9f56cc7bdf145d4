/- Chapter 20: the program's sizes of structs. -/
import Derived.Test.YtefikcjiblkmgaaGreatDoorF20e
set_option maxRecDepth 100000
set_option linter.unusedSimpArgs false
set_option linter.unusedVariables false
set_option pp.deepTerms.threshold 4
set_option pp.deepTerms false
namespace Go.VI.S
open Go.VI
theorem compG_app {m : Mod} {acc zs : List Int} {n : Int} {k : Int} {nm : Str} (hk : k = 8) : compG m acc k nm = (if stF m nm < 0 ∨ acc.length ≤ stF m nm then 0 else at' (acc ++ n :: zs) (stF m nm)) := by
  unfold compG
  rw [if_pos hk]
  split
  · rfl
  · rw [at_low (by omega) (by omega)]
theorem sizes_in (m : Mod) (hm : m.Ok) (i : Nat) (hi : i < m.ss.length) (fl : Fl) (fs : List Fld) (hf : fs.length ≤ 1048576) (acc zs : List Int) (hal : acc.length = i) (hzl : acc.length + zs.length + 1 = m.ss.length) (hs : Small acc) (fin : Int) {ks : List KI} {Q : PEx → Fr → Prop} {o1 : Option Ob}
    {u15 : PV} (hn : ∀ t ob,look t 1 = .ip m.c → look t 3 = .sl (0,0) 1 0 m.ss.length → look t 15 = u15 → look t 16 = .int .i64 m.ss.length → look t 17 = .int .i64 i → kQ E ks Q .norm { lvl := 0,tmps := mk 65 t,heap := [[some (.mem (ints (acc ++ fin :: zs)) 1 true 1),o1,ob]],defers := [] }) :
    ∀ (rest pre : List Fld) (n : Int) (ob : Option Ob) (t : List (Nat × PV)),fs = pre ++ rest → sumG m acc rest n = fin → 0 ≤ n → n ≤ 1000 →
      look t 1 = .ip m.c → look t 3 = .sl (0,0) 1 0 m.ss.length → look t 4 = .int .i64 i → look t 15 = u15 → look t 16 = .int .i64 m.ss.length → look t 17 = .int .i64 i →
      look t 23 = .vs fl (flds fs) → look t 24 = .int .i64 fs.length → look t 25 = .int .i64 pre.length →
      kQ E (.code p71l1 :: .blk 2 :: ks) Q .norm { lvl := 0,tmps := mk 65 t,heap := [[some (.mem (ints (acc ++ n :: zs)) 1 true 1),o1,ob]],defers := [] } := by
  intro rest
  have hss := hm.ss
  have h1' := m.hm
  induction rest with
  | nil =>
    intro pre n ob t hl hi h0n h1n h1 h3 h4 h15 h16 h17 h23 h24 h25
    have e : fs.length = pre.length := by rw [hl]; simp
    refine loopK' (c := p71l1) rfl ?_
    repeat' first | ((with_reducible first | refine cS ?_ ?_ | refine oS ?_ ?_ | refine dS ?_ ?_) <;> intro _) | ((with_reducible refine kk ?_ ?_); · rfl) | (simp -implicitDefEqProofs (disch := first | omega | assumption) only [push_cast,simprocAttr,eqTop,eqShL,eqSh,K_seq,h1,h3,h4,h15,h16,h17,h23,h24,h25,e]) | ((with_reducible first | refine cB ?_ ?_ | refine oB ?_ ?_ | refine dB ?_ ?_) <;> intro _)
    simp only [sumG] at hi
    subst hi
    exact hn _ _ (by simp [look,look_keepL,h1]) (by simp [look,look_keepL,h3]) (by simp [look,look_keepL,h15]) (by simp [look,look_keepL,h16]) (by simp [look,look_keepL,h17])
  | cons s r ih =>
    intro pre n ob t hl hfin h0n h1n h1 h3 h4 h15 h16 h17 h23 h24 h25
    have e : fs.length = pre.length + r.length + 1 := by rw [hl]; simp; omega
    have hg : (flds fs)[pre.length]? = some (.agg [.str s.name,.int .i64 s.ty.kind,.str s.ty.name]) := by rw [hl]; exact get_at _ _ _ _
    have hc := compG_bd (m := m) hs s.ty.kind s.ty.name
    have hst := stF_bd m s.ty.name
    have hpl := plainF_bd s.ty.kind
    have hcell : (acc ++ n :: zs).length = m.ss.length := by simp; omega
    have hmid : at' (acc ++ n :: zs) i = n := at_mid (by omega)
    have hset : ∀ k : Int,(ints (acc ++ n :: zs)).set i (.int .i64 k) = ints (acc ++ k :: zs) := fun k => set_mid hal.symm
    have hcz : s.ty.kind ≠ 8 → compG m acc s.ty.kind s.ty.name = plainF s.ty.kind := fun h => by simp [compG,h]
    have hge : (ints (acc ++ n :: zs))[i]? = some (.int .i64 n) := by
      have := ints_get (zs := acc ++ n :: zs) (j := i) (by omega) (by simp; omega)
      rw [hmid] at this
      simpa using this
    have hab := at_bd hs (stF m s.ty.name)
    have hc8 : s.ty.kind = 8 → 0 ≤ stF m s.ty.name → stF m s.ty.name < i → compG m acc s.ty.kind s.ty.name = at' acc (stF m s.ty.name) := fun h h0 h1 => by unfold compG; rw [if_pos h,if_neg (by omega)]
    have hc0 : s.ty.kind = 8 → (stF m s.ty.name < 0 ∨ i ≤ stF m s.ty.name) → compG m acc s.ty.kind s.ty.name = 0 := fun h h0 => by unfold compG; rw [if_pos h,if_pos (by omega)]
    refine loopK' (c := p71l1) rfl ?_
    repeat' first | ((with_reducible first | refine cS ?_ ?_ | refine oS ?_ ?_ | refine dS ?_ ?_) <;> intro _) | ((with_reducible refine kk ?_ ?_); · rfl) | (simp -implicitDefEqProofs (disch := first | omega | assumption) only [push_cast,simprocAttr,eqTop,eqShL,eqSh,K_seq,at_low,h1,h3,h4,h15,h16,h17,h23,h24,h25,hg,hge,plain_ok,find_ok,hm,ints_len,ints_get,hcell,hset,h1']) | ((with_reducible first | refine cB ?_ ?_ | refine oB ?_ ?_ | refine dB ?_ ?_) <;> intro _)
    all_goals
      refine ih (pre ++ [s]) _ _ _ (by simp [hl]) ?_ ?_ ?_ (by simp [look,look_keepL,h1]) (by simp [look,look_keepL,h3]) (by simp [look,look_keepL,h4]) (by simp [look,look_keepL,h15]) (by simp [look,look_keepL,h16]) (by simp [look,look_keepL,h17]) (by simp [look,look_keepL,h23]) (by simp [look,look_keepL,h24]) (by simp [look,look_keepL])
    all_goals first
      | (split <;> omega)
      | (rename_i hk; rw [← hfin,sumG,hcz hk]; done)
      | (rename_i hk h0 h1; rw [← hfin,sumG,hc8 (by omega) h0 h1]; done)
      | (rename_i hk h0; rw [← hfin,sumG,hc0 (by omega) (by omega)]; done)
      | (rename_i hk h0 h1; rw [← hfin,sumG,hc0 (by omega) (by omega)]; done)
theorem sizes_out (m : Mod) (hm : m.Ok) {ks : List KI} {Q : PEx → Fr → Prop}
    (hn : ∀ t o1 o2,look t 3 = .sl (0,0) 1 0 m.ss.length → kQ E ks Q .norm { lvl := 0,tmps := mk 65 t,heap := [[some (.mem (ints (sizF m)) 1 true 1),o1,o2]],defers := [] }) :
    ∀ (rest pre : List Sct) (acc : List Int) (o1 o2 : Option Ob) (t : List (Nat × PV)),m.ss = pre ++ rest → sizG m rest acc = sizF m → acc.length = pre.length → Small acc →
      look t 1 = .ip m.c → look t 3 = .sl (0,0) 1 0 m.ss.length → look t 15 = .vs m.sf (scts m.ss) → look t 16 = .int .i64 m.ss.length → look t 17 = .int .i64 pre.length →
      kQ E (.code p71l0 :: .blk 0 :: ks) Q .norm { lvl := 0,tmps := mk 65 t,heap := [[some (.mem (ints (acc ++ List.replicate rest.length 0)) 1 true 1),o1,o2]],defers := [] } := by
  intro rest
  have hss := hm.ss
  induction rest with
  | nil =>
    intro pre acc o1 o2 t hl hi hal hsm h1 h3 h15 h16 h17
    have e : m.ss.length = pre.length := by rw [hl]; simp
    refine loopK' (c := p71l0) rfl ?_
    repeat' first | ((with_reducible first | refine cS ?_ ?_ | refine oS ?_ ?_ | refine dS ?_ ?_) <;> intro _) | ((with_reducible refine kk ?_ ?_); · rfl) | (simp -implicitDefEqProofs (disch := first | omega | assumption) only [push_cast,simprocAttr,eqTop,eqShL,eqSh,K_seq,h1,h3,h15,h16,h17,e]) | ((with_reducible first | refine cB ?_ ?_ | refine oB ?_ ?_ | refine dB ?_ ?_) <;> intro _)
    simp only [sizG] at hi
    subst hi
    have := hn (keepL [1,3,15,16,17] ((18,.bool false) :: keepL [1,3,15,16,17] t)) o1 o2 (by simp [look,look_keepL,h3])
    try simp only [List.length_nil,List.replicate_zero,List.append_nil]
    exact hn _ _ _ (by simp [look,look_keepL,h3])
  | cons s r ih =>
    intro pre acc o1 o2 t hl hi hal hsm h1 h3 h15 h16 h17
    have e : m.ss.length = pre.length + r.length + 1 := by rw [hl]; simp; omega
    have hg : (scts m.ss)[pre.length]? = some (.agg [.str s.name,.vs s.fl (flds s.fs)]) := by rw [hl]; exact get_at _ _ _ _
    have hf : s.fs.length ≤ 1048576 := hm.sf s (by rw [hl]; simp)
    refine loopK' (c := p71l0) rfl ?_
    repeat' first | ((with_reducible first | refine cS ?_ ?_ | refine oS ?_ ?_ | refine dS ?_ ?_) <;> intro _) | ((with_reducible refine kk ?_ ?_); · rfl) | (simp -implicitDefEqProofs (disch := first | omega | assumption) only [push_cast,simprocAttr,eqTop,eqShL,eqSh,K_seq,h1,h3,h15,h16,h17,hg]) | ((with_reducible first | refine cB ?_ ?_ | refine oB ?_ ?_ | refine dB ?_ ?_) <;> intro _)
    rw [show acc ++ List.replicate (r.length + 1) (0 : Int) = acc ++ 0 :: List.replicate r.length 0 from by rw [List.replicate_succ]]
    refine sizes_in m hm pre.length (by omega) s.fl s.fs hf acc (List.replicate r.length 0) hal (by simp; omega) hsm (sumG m acc s.fs 0) (u15 := .vs m.sf (scts m.ss)) ?_ s.fs [] 0 _ _ rfl rfl (by omega) (by omega) (by simp [look,look_keepL,h1]) (by simp [look,look_keepL,h3]) (by simp [look,look_keepL]) (by simp [look,look_keepL,h15]) (by simp [look,look_keepL,h16]) (by simp [look,look_keepL,h17]) (by simp [look,look_keepL]) (by simp [look,look_keepL]) (by simp [look,look_keepL])
    intro t' ob h1' h3' h15' h16' h17'
    repeat' first | ((with_reducible first | refine cS ?_ ?_ | refine oS ?_ ?_ | refine dS ?_ ?_) <;> intro _) | ((with_reducible refine kk ?_ ?_); · rfl) | (simp -implicitDefEqProofs (disch := first | omega | assumption) only [push_cast,simprocAttr,eqTop,eqShL,eqSh,K_seq,h1',h3',h15',h16',h17']) | ((with_reducible first | refine cB ?_ ?_ | refine oB ?_ ?_ | refine dB ?_ ?_) <;> intro _)
    rw [show acc ++ sumG m acc s.fs 0 :: List.replicate r.length 0 = (acc ++ [sumG m acc s.fs 0]) ++ List.replicate r.length 0 from by simp]
    refine ih (pre ++ [s]) (acc ++ [sumG m acc s.fs 0]) _ _ _ (by simp [hl]) (by rw [← hi]; rfl) (by simp [hal]) ?_ (by simp [look,look_keepL,h1']) (by simp [look,look_keepL,h3']) (by simp [look,look_keepL,h15']) (by simp [look,look_keepL,h16']) (by simp [look,look_keepL])
    intro z hz
    have := sumG_bd (m := m) hsm s.fs 0 (by omega) (by omega)
    rcases List.mem_append.1 hz with hz | hz
    · exact hsm z hz
    · simp at hz; omega
theorem sizes_ok (m : Mod) (hm : m.Ok) (h : Heap) : doCall E (callR E) 71 [.agg m.c] h = some (.vs .any (ints (sizF m)),h) := by
  have h1 := m.hm
  have hss := hm.ss
  refine call_pure (pf := p71) rfl rfl rfl rfl (by simp [PV.lowL,PV.low,strs_low,flds_low,scts_low,funs_low,h1,ints_low]) (by simp [PV.low,PV.lowL,strs_low,flds_low,scts_low,funs_low,h1,ints_low]) ?_ h
  show kQ E _ (endQ [⟨2,none⟩] _) .norm { lvl := 0,tmps := mk 65 [(0,.agg m.c)],heap := [[none,none,none]],defers := [] }
  repeat' first | ((with_reducible first | refine cS ?_ ?_ | refine oS ?_ ?_ | refine dS ?_ ?_) <;> intro _) | ((with_reducible refine kk ?_ ?_); · rfl) | (simp -implicitDefEqProofs (disch := first | omega | assumption) only [push_cast,simprocAttr,eqTop,eqShL,eqSh,K_seq,h1,ints_low,repl_ints]) | ((with_reducible first | refine cB ?_ ?_ | refine oB ?_ ?_ | refine dB ?_ ?_) <;> intro _)
  refine sizes_out m hm ?_ m.ss [] [] _ _ _ rfl rfl rfl (fun z hz => by simp at hz) (by simp [look,look_keepL]) (by simp [look,look_keepL]) (by simp [look,look_keepL]) (by simp [look,look_keepL]) (by simp [look,look_keepL])
  intro t o1 o2 h3
  repeat' first | ((with_reducible first | refine cS ?_ ?_ | refine oS ?_ ?_ | refine dS ?_ ?_) <;> intro _) | ((with_reducible refine kk ?_ ?_); · rfl) | (simp -implicitDefEqProofs (disch := first | omega | assumption) only [push_cast,simprocAttr,eqTop,eqShL,eqSh,K_seq,h3,ints_len,sizF_len]) | ((with_reducible first | refine cB ?_ ?_ | refine oB ?_ ?_ | refine dB ?_ ?_) <;> intro _)
  rw [ints_take' (sizF_len m).symm]
end Go.VI.S
