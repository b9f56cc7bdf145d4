/- Chapter 16: the order of edges; sorted. -/
import Derived.Test.YteodaifeknghaaaP16
import Derived.Test.YteodaifeknghaaaVC
import Derived.KernelRfl
set_option maxRecDepth 100000
set_option linter.unusedSimpArgs false
namespace Go.VI.S0
open Go.VI Go.VI.S
noncomputable def E : Env := ⟨pf,fun _ => .junk⟩
abbrev T2 := Int × Int
def ed (e : T2) : PV := .agg [.int .i64 e.1,.int .i64 e.2]
theorem ed_low {e : T2} {L : Nat} : (ed e).low L = true := by simp [ed,PV.low,PV.lowL]
def lessF (a b : T2) : Bool := decide (a.1 < b.1 ∨ a.1 = b.1 ∧ a.2 < b.2)
theorem less_ok (a b : T2) (h : Heap) : doCall E (callR E) 32 [ed a,ed b] h = some (.bool (lessF a b),h) := by
  refine call_pure (pf := p32) rfl rfl rfl rfl (by simp [PV.lowL,PV.low,ed_low]) (by simp [PV.low,PV.lowL,ed_low]) ?_ h
  show kQ E _ (endQ [⟨4,none⟩] _) .norm { lvl := 0,tmps := mk 24 [(0,ed a),(1,ed b)],heap := [[]],defers := [] }
  unfold ed
  repeat' first | ((with_reducible first | refine cS ?_ ?_ | refine oS ?_ ?_ | refine dS ?_ ?_) <;> intro _) | ((with_reducible refine kk ?_ ?_); · rfl) | (simp -implicitDefEqProofs (disch := first | omega | assumption) only [push_cast,simprocAttr,eqTop,eqShL,eqSh,K_seq]) | ((with_reducible first | refine cB ?_ ?_ | refine oB ?_ ?_ | refine dB ?_ ?_) <;> intro _)
  all_goals (simp only [lessF,PV.bool.injEq,true_eq_decide_iff,false_eq_decide_iff,decide_eq_decide]; omega)
def encE (l : List T2) : List PV := l.map ed
theorem encE_len {l : List T2} : (encE l).length = l.length := by simp [encE]
theorem encE_take {l : List T2} : (encE l).take l.length = encE l := List.take_of_length_le (by simp [encE])
theorem encE_hsz {l : List T2} : headSz 2 (encE l) = true := by
  cases l <;> simp [encE,headSz,PV.cells,ed]
theorem encE_app {l : List T2} {p : T2} : encE l ++ [ed p] = encE (l ++ [p]) := by simp [encE]
theorem encE_apps {l m : List T2} : encE l ++ encE m = encE (l ++ m) := by simp [encE]
theorem encE_cons {l : List T2} {p : T2} : encE (p :: l) = ed p :: encE l := rfl
theorem encE_cons' {l : List T2} {p : T2} : encE (p :: l) = .agg [.int .i64 p.1,.int .i64 p.2] :: encE l := rfl
theorem less_ok' (a b c d : Int) (h : Heap) : doCall E (callR E) 32 [.agg [.int .i64 a,.int .i64 b],.agg [.int .i64 c,.int .i64 d]] h = some (.bool (lessF (a,b) (c,d)),h) := less_ok (a,b) (c,d) h
theorem encE_app' {l : List T2} {p : T2} : encE l ++ [.agg [.int .i64 p.1,.int .i64 p.2]] = encE (l ++ [p]) := by simp [encE,ed]
theorem encE_nil : encE [] = [] := rfl
def mrg (a b : List T2) : List T2 := List.merge a b lessF
theorem mg_loop {ks : List KI} {Q : PEx → Fr → Prop} {fin : List T2}
    (hpost : ∀ (A B O : List T2) g1 l,O ++ A ++ B = fin → look l 3 = .vs .any (encE A) → look l 4 = .vs .any (encE B) → look l 5 = .sl (0,0) g1 0 O.length → kQ E ks Q .norm { lvl := 0,tmps := mk 62 l,heap := [[some (.mem (encE O) g1 true 2),none,none,none,none]],defers := [] }) :
    ∀ (k : Nat) (A B O : List T2) (g1 : Nat) (l : List (Nat × PV)),A.length + B.length = k → O.length + k ≤ 16777216 → O ++ mrg A B = fin →
      look l 3 = .vs .any (encE A) → look l 4 = .vs .any (encE B) → look l 5 = .sl (0,0) g1 0 O.length →
      kQ E (.code p29l0 :: .blk 0 :: ks) Q .norm { lvl := 0,tmps := mk 62 l,heap := [[some (.mem (encE O) g1 true 2),none,none,none,none]],defers := [] } := by
  intro k
  induction k with
  | zero =>
    intro A B O g1 l hk hb hf h3 h4 h5
    have hA : A = [] := List.eq_nil_of_length_eq_zero (by omega)
    have hB : B = [] := List.eq_nil_of_length_eq_zero (by omega)
    subst hA hB
    refine loopK' (c := p29l0) rfl ?_
    repeat' first | ((with_reducible first | refine cS ?_ ?_ | refine oS ?_ ?_ | refine dS ?_ ?_) <;> intro _) | ((with_reducible refine kk ?_ ?_); · rfl) | (simp -implicitDefEqProofs (disch := first | omega | assumption) only [push_cast,simprocAttr,eqTop,eqShL,eqSh,K_seq,h3,h4,h5,encE_nil]) | ((with_reducible first | refine cB ?_ ?_ | refine oB ?_ ?_ | refine dB ?_ ?_) <;> intro _)
    exact hpost [] [] O _ _ (by simpa [mrg] using hf) (by simp [look,look_keepL,h3,encE_nil]) (by simp [look,look_keepL,h4,encE_nil]) (by simp [look,look_keepL,h5])
  | succ k ih =>
    intro A B O g1 l hk hb hf h3 h4 h5
    cases A with
    | nil =>
      refine loopK' (c := p29l0) rfl ?_
      repeat' first | ((with_reducible first | refine cS ?_ ?_ | refine oS ?_ ?_ | refine dS ?_ ?_) <;> intro _) | ((with_reducible refine kk ?_ ?_); · rfl) | (simp -implicitDefEqProofs (disch := first | omega | assumption) only [push_cast,simprocAttr,eqTop,eqShL,eqSh,K_seq,h3,h4,h5,encE_nil]) | ((with_reducible first | refine cB ?_ ?_ | refine oB ?_ ?_ | refine dB ?_ ?_) <;> intro _)
      exact hpost [] B O _ _ (by simpa [mrg] using hf) (by simp [look,look_keepL,h3,encE_nil]) (by simp [look,look_keepL,h4,encE_nil]) (by simp [look,look_keepL,h5])
    | cons x A =>
      cases B with
      | nil =>
        refine loopK' (c := p29l0) rfl ?_
        repeat' first | ((with_reducible first | refine cS ?_ ?_ | refine oS ?_ ?_ | refine dS ?_ ?_) <;> intro _) | ((with_reducible refine kk ?_ ?_); · rfl) | (simp -implicitDefEqProofs (disch := first | omega | assumption) only [push_cast,simprocAttr,eqTop,eqShL,eqSh,K_seq,h3,h4,h5,encE_nil,encE_len]) | ((with_reducible first | refine cB ?_ ?_ | refine oB ?_ ?_ | refine dB ?_ ?_) <;> intro _)
        exact hpost (x :: A) [] O _ _ (by simpa [mrg] using hf) (by simp [look,look_keepL,h3,encE_nil]) (by simp [look,look_keepL,h4,encE_nil]) (by simp [look,look_keepL,h5])
      | cons y B =>
        refine loopK' (c := p29l0) rfl ?_
        have hx : (encE (x :: A)).length = A.length + 1 := by simp [encE]
        have hy : (encE (y :: B)).length = B.length + 1 := by simp [encE]
        simp only [List.length_cons] at hk
        cases hl : lessF x y with
        | true =>
          have hl' : lessF (x.1,x.2) (y.1,y.2) = true := hl
          repeat' first | ((with_reducible first | refine cS ?_ ?_ | refine oS ?_ ?_ | refine dS ?_ ?_) <;> intro _) | ((with_reducible refine kk ?_ ?_); · rfl) | (simp -implicitDefEqProofs (disch := first | omega | assumption) only [push_cast,simprocAttr,eqTop,eqShL,eqSh,K_seq,h3,h4,h5,encE_cons',encE_len,encE_take,encE_app',less_ok',hl',boundsE,bound,Option.isSome_none,headSz,PV.cells,List.length_cons,List.take_of_length_le,List.drop_succ_cons,List.drop_zero]) | ((with_reducible first | refine cB ?_ ?_ | refine oB ?_ ?_ | refine dB ?_ ?_) <;> intro _)
          exact ih A (y :: B) (O ++ [x]) _ _ (by simp; omega) (by simp; omega) (by rw [← hf]; simp [mrg,List.cons_merge_cons,hl]) (by simp [look,look_keepL]) (by simp [look,look_keepL,h4,encE_cons']) (by simp [look,look_keepL])
        | false =>
          have hl' : lessF (x.1,x.2) (y.1,y.2) = false := hl
          repeat' first | ((with_reducible first | refine cS ?_ ?_ | refine oS ?_ ?_ | refine dS ?_ ?_) <;> intro _) | ((with_reducible refine kk ?_ ?_); · rfl) | (simp -implicitDefEqProofs (disch := first | omega | assumption) only [push_cast,simprocAttr,eqTop,eqShL,eqSh,K_seq,h3,h4,h5,encE_cons',encE_len,encE_take,encE_app',less_ok',hl',boundsE,bound,Option.isSome_none,headSz,PV.cells,List.length_cons,List.take_of_length_le,List.drop_succ_cons,List.drop_zero]) | ((with_reducible first | refine cB ?_ ?_ | refine oB ?_ ?_ | refine dB ?_ ?_) <;> intro _)
          exact ih (x :: A) B (O ++ [y]) _ _ (by simp; omega) (by simp; omega) (by rw [← hf]; simp [mrg,List.cons_merge_cons,hl]) (by simp [look,look_keepL,h3,encE_cons']) (by simp [look,look_keepL]) (by simp [look,look_keepL])
def sortN : Nat → List T2 → List T2
  | 0,l => l
  | n + 1,l => if l.length < 2 then l else mrg (sortN n (l.take (l.length / 2))) (sortN n (l.drop (l.length / 2)))
theorem encE_takeN {l : List T2} {n : Nat} : (encE l).take n = encE (l.take n) := by simp [encE]
theorem encE_dropN {l : List T2} {n : Nat} : (encE l).drop n = encE (l.drop n) := by simp [encE]
theorem encE_low {l : List T2} {L : Nat} : PV.lowL L (encE l) = true := lowL_map _ (fun _ => ed_low) _
theorem mrg_len (a b : List T2) : (mrg a b).length = a.length + b.length := List.length_merge ..
theorem sortN_len : ∀ (n : Nat) (l : List T2),(sortN n l).length = l.length
  | 0,l => rfl
  | n + 1,l => by
    unfold sortN
    split
    · rfl
    · rw [mrg_len,sortN_len n,sortN_len n]; simp; omega
theorem sorted_ok : ∀ (n : Nat) (l : List T2),l.length ≤ n → l.length ≤ 16777216 → ∀ h : Heap,doCall E (callR E) 29 [.vs .any (encE l)] h = some (.vs .any (encE (sortN n l)),h) := by
  intro n
  induction n with
  | zero =>
    intro l hl hb h
    have : l = [] := List.eq_nil_of_length_eq_zero (by omega)
    subst this
    refine call_pure (pf := p29) rfl rfl rfl rfl (by simp [PV.lowL,PV.low]) (by simp [PV.low,PV.lowL]) ?_ h
    show kQ E _ (endQ [⟨2,none⟩] _) .norm { lvl := 0,tmps := mk 62 [(0,.vs .any (encE []))],heap := [[none,none,none,none,none]],defers := [] }
    have pu29 : pureB E 29 = true := rfl
    repeat' first | ((with_reducible first | refine cS ?_ ?_ | refine oS ?_ ?_ | refine dS ?_ ?_) <;> intro _) | ((with_reducible refine kk ?_ ?_); · rfl) | (simp -implicitDefEqProofs (disch := first | omega | assumption) only [push_cast,simprocAttr,eqTop,eqShL,eqSh,K_seq,encE_nil,sortN]) | ((with_reducible first | refine cB ?_ ?_ | refine oB ?_ ?_ | refine dB ?_ ?_) <;> intro _)
  | succ n ih =>
    intro l hl hb h
    by_cases h2 : l.length < 2
    · have : sortN (n + 1) l = l := by unfold sortN; rw [if_pos h2]
      rw [this]
      refine call_pure (pf := p29) rfl rfl rfl rfl (by simp [PV.lowL,PV.low]) (by simp [PV.low,PV.lowL]) ?_ h
      show kQ E _ (endQ [⟨2,none⟩] _) .norm { lvl := 0,tmps := mk 62 [(0,.vs .any (encE l))],heap := [[none,none,none,none,none]],defers := [] }
      have pu29 : pureB E 29 = true := rfl
      repeat' first | ((with_reducible first | refine cS ?_ ?_ | refine oS ?_ ?_ | refine dS ?_ ?_) <;> intro _) | ((with_reducible refine kk ?_ ?_); · rfl) | (simp -implicitDefEqProofs (disch := first | omega | assumption) only [push_cast,simprocAttr,eqTop,eqShL,eqSh,K_seq,encE_len]) | ((with_reducible first | refine cB ?_ ?_ | refine oB ?_ ?_ | refine dB ?_ ?_) <;> intro _)
    · have hs : sortN (n + 1) l = mrg (sortN n (l.take (l.length / 2))) (sortN n (l.drop (l.length / 2))) := by
        conv => lhs; unfold sortN
        rw [if_neg h2]
      have hd0 : ((l.length : Int)).tdiv 2 = (l.length : Int) / 2 := Int.tdiv_eq_ediv_of_nonneg (by omega)
      have hd : ((l.length : Int) / 2).toNat = l.length / 2 := by omega
      have i1 := ih (l.take (l.length / 2)) (by simp; omega) (by simp; omega)
      have i2 := ih (l.drop (l.length / 2)) (by simp; omega) (by simp; omega)
      have hle : l.length / 2 ≤ l.length := Nat.div_le_self ..
      refine call_pureP (pf := p29) rfl rfl rfl rfl (by simp [PV.lowL,PV.low]) ?_ h
      show kQ E _ (endP [⟨2,none⟩] _) .norm { lvl := 0,tmps := mk 62 [(0,.vs .any (encE l))],heap := [[none,none,none,none,none]],defers := [] }
      have pu29 : pureB E 29 = true := rfl
      repeat' first | ((with_reducible first | refine cS ?_ ?_ | refine oS ?_ ?_ | refine dS ?_ ?_) <;> intro _) | ((with_reducible refine kk ?_ ?_); · rfl) | (simp -implicitDefEqProofs (disch := first | omega | assumption) only [push_cast,simprocAttr,eqTop,eqShL,eqSh,K_seq,encE_len,hd0,hd,boundsE,bound,Option.isSome_none,encE_hsz,encE_takeN,encE_dropN,List.take_of_length_le,List.drop_zero,Int.toNat_natCast,i1,i2,encE_low,Bool.false_and,Bool.false_eq_true,if_false]) | ((with_reducible first | refine cB ?_ ?_ | refine oB ?_ ?_ | refine dB ?_ ?_) <;> intro _)
      rw [hs]
      refine mg_loop (fin := mrg (sortN n (l.take (l.length / 2))) (sortN n (l.drop (l.length / 2)))) ?_ _ (sortN n (l.take (l.length / 2))) (sortN n (l.drop (l.length / 2))) [] 1 _ rfl (by simp [sortN_len]; omega) rfl (by simp [look]) (by simp [look]) (by simp [look])
      intro A B O g1 l' hf h3 h4 h5
      have hlen : O.length + A.length + B.length = l.length := by
        have := congrArg List.length hf
        simp [mrg_len,sortN_len] at this
        omega
      have hO : (encE O).length = O.length := encE_len
      have hA : (encE A).length = A.length := encE_len
      have hB : (encE B).length = B.length := encE_len
      have hOA : (encE (O ++ A)).length = O.length + A.length := by simp [encE]
      have e1 : (encE O).take O.length = encE O := encE_take
      have e2 : (encE (O ++ A)).take (O.length + A.length) = encE (O ++ A) := List.take_of_length_le (by simp [encE])
      have e3 : (encE (O ++ A ++ B)).take (O.length + A.length + B.length) = encE (O ++ A ++ B) := List.take_of_length_le (by simp [encE]; omega)
      have hn : (encE []) = [] := rfl
      have hap : ∀ x : List T2,(encE x).drop x.length = [] := fun x => List.drop_eq_nil_of_le (by simp [encE])
      rcases Nat.eq_zero_or_pos A.length with a0 | a0
      · have := List.eq_nil_of_length_eq_zero a0
        subst this
        rcases Nat.eq_zero_or_pos B.length with b0 | b0
        · have := List.eq_nil_of_length_eq_zero b0
          subst this
          repeat' first | ((with_reducible first | refine cS ?_ ?_ | refine oS ?_ ?_ | refine dS ?_ ?_) <;> intro _) | ((with_reducible refine kk ?_ ?_); · rfl) | (simp -implicitDefEqProofs (disch := first | omega | assumption) only [push_cast,simprocAttr,eqTop,eqShL,eqSh,K_seq,h3,h4,h5,encE_len,encE_hsz,hn,hO,hap,List.append_nil,List.length_nil,Nat.add_zero,Nat.le_refl,e1, ← hf,endP_ret,snap_vs4,snap_sl4]) | ((with_reducible first | refine cB ?_ ?_ | refine oB ?_ ?_ | refine dB ?_ ?_) <;> intro _)
        · have cb : ¬ (O.length + B.length ≤ O.length) := by omega
          have e4 : (encE (O ++ B)).take (O.length + B.length) = encE (O ++ B) := List.take_of_length_le (by simp [encE])
          have e5 : (encE (O ++ B)).length = O.length + B.length := by simp [encE]
          repeat' first | ((with_reducible first | refine cS ?_ ?_ | refine oS ?_ ?_ | refine dS ?_ ?_) <;> intro _) | ((with_reducible refine kk ?_ ?_); · rfl) | (simp -implicitDefEqProofs (disch := first | omega | assumption) only [push_cast,simprocAttr,eqTop,eqShL,eqSh,K_seq,h3,h4,h5,encE_len,encE_hsz,hn,hO,hB,hap,cb,e4,e5,encE_apps,List.append_nil,List.length_nil,Nat.add_zero,Nat.le_refl,e1, ← hf,endP_ret,snap_vs4,snap_sl4]) | ((with_reducible first | refine cB ?_ ?_ | refine oB ?_ ?_ | refine dB ?_ ?_) <;> intro _)
      · have ca : ¬ (O.length + A.length ≤ O.length) := by omega
        rcases Nat.eq_zero_or_pos B.length with b0 | b0
        · have := List.eq_nil_of_length_eq_zero b0
          subst this
          have hap2 : (encE (O ++ A)).drop (O.length + A.length) = [] := List.drop_eq_nil_of_le (by simp [encE])
          repeat' first | ((with_reducible first | refine cS ?_ ?_ | refine oS ?_ ?_ | refine dS ?_ ?_) <;> intro _) | ((with_reducible refine kk ?_ ?_); · rfl) | (simp -implicitDefEqProofs (disch := first | omega | assumption) only [push_cast,simprocAttr,eqTop,eqShL,eqSh,K_seq,h3,h4,h5,encE_len,encE_hsz,hn,hO,hA,hOA,hap2,ca,e1,e2,encE_apps,List.append_nil,List.length_nil,Nat.add_zero,Nat.le_refl, ← hf,endP_ret,snap_vs4,snap_sl4]) | ((with_reducible first | refine cB ?_ ?_ | refine oB ?_ ?_ | refine dB ?_ ?_) <;> intro _)
        · have cb : ¬ (O.length + A.length + B.length ≤ O.length + A.length) := by omega
          have e5 : (encE (O ++ A ++ B)).length = O.length + A.length + B.length := by simp [encE]; omega
          repeat' first | ((with_reducible first | refine cS ?_ ?_ | refine oS ?_ ?_ | refine dS ?_ ?_) <;> intro _) | ((with_reducible refine kk ?_ ?_); · rfl) | (simp -implicitDefEqProofs (disch := first | omega | assumption) only [push_cast,simprocAttr,eqTop,eqShL,eqSh,K_seq,h3,h4,h5,encE_len,encE_hsz,hn,hO,hA,hB,hOA,ca,cb,e1,e2,e3,e5,encE_apps,Nat.le_refl, ← hf,endP_ret,snap_vs4,snap_sl4]) | ((with_reducible first | refine cB ?_ ?_ | refine oB ?_ ?_ | refine dB ?_ ?_) <;> intro _)
end Go.VI.S0
