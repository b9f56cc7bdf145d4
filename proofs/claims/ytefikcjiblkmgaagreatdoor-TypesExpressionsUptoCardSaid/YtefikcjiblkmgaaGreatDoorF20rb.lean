/- Chapter 20: the type of an expression. -/
import Derived.Test.YtefikcjiblkmgaaGreatDoorF20r
set_option maxRecDepth 100000
set_option linter.unusedSimpArgs false
set_option linter.unusedVariables false
set_option pp.deepTerms.threshold 4
set_option pp.deepTerms false
namespace Go.VI.S
open Go.VI
def appX (acc : List Ty) : Except Int (List Ty) → Except Int (List Ty)
  | .ok l => .ok (acc ++ l)
  | .error c => .error c
theorem appX_cons {acc : List Ty} {t : Ty} {r : Except Int (List Ty)} : appX acc (consX t r) = appX (acc ++ [t]) r := by
  cases r <;> simp [appX,consX]
theorem set_tys {acc l : List Ty} {t : Ty} {k : Int} {n : Str} {j : Nat} (h : j = acc.length) : (tys (acc ++ t :: l)).set j (.agg [.int .i64 k,.str n]) = tys (acc ++ ⟨k,n⟩ :: l) := by
  subst h
  simp [tys]
theorem tys_at {acc l : List Ty} {t : Ty} {j : Nat} (h : j = acc.length) : (tys (acc ++ t :: l))[j]? = some (.agg [.int .i64 t.kind,.str t.name]) := by
  subst h
  exact get_at _ _ _ _
set_option maxHeartbeats 2000000 in
theorem ext_loop (m : Mod) (hm : m.Ok) {fs : Fl} (sc : List Fld) (k o x : Int) (nm : Str) (fl : Fl) (as : List Ex) (has : as.length ≤ 1048576) (hrec : ∀ a ∈ as, ∀ h,doCall E (callR E) 11 [.agg m.c,.vs fs (flds sc),.agg a.c] h = some (encR (exprF m sc a),h)) (fin : Except Int (List Ty)) {o4 : Option Ob} {ks : List KI} {Q : PEx → Fr → Prop}
    (hr : ∀ t (acc : List Ty) (rest : List Ex) (o2 o3 : Option Ob) c,fin = .error c → look t 6 = .ptr (0,0) 1 0 0 → look t 7 = .int .i64 c → kQ E ks Q .ret { lvl := 0,tmps := mk 76 t,heap := [[cell0,some (.mem (tys (acc ++ List.replicate rest.length tz)) 1 true 2),o2,o3,o4]],defers := [] })
    (hn : ∀ t (acc : List Ty) (rest : List Ex) (o2 o3 : Option Ob),rest = [] → fin = .ok acc → look t 1 = .vs fs (flds sc) → look t 3 = .ip m.c → look t 5 = .ip [.int .i64 k,.int .i64 o,.str nm,.int .i64 x,.vs fl (exs as)] → look t 6 = .ptr (0,0) 1 0 0 → look t 8 = .sl (0,1) 1 0 as.length → kQ E ks Q .norm { lvl := 0,tmps := mk 76 t,heap := [[cell0,some (.mem (tys (acc ++ List.replicate rest.length tz)) 1 true 2),o2,o3,o4]],defers := [] }) :
    ∀ (rest pre : List Ex) (acc : List Ty) (o2 o3 : Option Ob) (t : List (Nat × PV)),as = pre ++ rest → (appX acc (argsF m sc (takesF m k nm && decide (pre.length = 0)) rest) = fin) → (acc.length = pre.length) →
      look t 1 = .vs fs (flds sc) → look t 3 = .ip m.c → look t 5 = .ip [.int .i64 k,.int .i64 o,.str nm,.int .i64 x,.vs fl (exs as)] → look t 6 = .ptr (0,0) 1 0 0 → look t 8 = .sl (0,1) 1 0 as.length → look t 33 = .vs fl (exs as) → look t 34 = .int .i64 as.length → look t 35 = .int .i64 pre.length →
      kQ E (.code p11l0 :: .blk 0 :: ks) Q .norm { lvl := 0,tmps := mk 76 t,heap := [[cell0,some (.mem (tys (acc ++ List.replicate rest.length tz)) 1 true 2),o2,o3,o4]],defers := [] } := by
  intro rest
  have h1' := m.hm
  induction rest with
  | nil =>
    intro pre acc o2 o3 t hl hi0 hi1 h1 h3 h5 h6 h8 h33 h34 h35
    have e : as.length = pre.length := by rw [hl]; simp
    refine loopK' (c := p11l0) rfl ?_
    repeat' first | ((with_reducible first | refine cS ?_ ?_ | refine oS ?_ ?_ | refine dS ?_ ?_) <;> intro _) | ((with_reducible refine kk ?_ ?_); · rfl) | (simp -implicitDefEqProofs (disch := first | omega | assumption) only [push_cast,simprocAttr,eqTop,eqShL,eqSh,K_seq,h1,h3,h5,h6,h8,h33,h34,h35,e,h1',Ex.low,Ex.c_len,take5,takes_ok,hm]) | ((with_reducible first | refine cB ?_ ?_ | refine oB ?_ ?_ | refine dB ?_ ?_) <;> intro _)
    have q := fun t => hn t acc [] o2 o3 rfl (by rw [← hi0]; simp [argsF,appX])
    simp only [List.length_nil,List.replicate_zero,List.append_nil] at q
    exact q _ (by simp [look,look_keepL,h1]) (by simp [look,look_keepL,h3]) (by simp [look,look_keepL,h5]) (by simp [look,look_keepL,h6]) (by simp [look,look_keepL,h8])
  | cons s r ih =>
    intro pre acc o2 o3 t hl hi0 hi1 h1 h3 h5 h6 h8 h33 h34 h35
    have e : as.length = pre.length + r.length + 1 := by rw [hl]; simp; omega
    have hg : (exs as)[pre.length]? = some (.agg s.c) := by rw [hl,exs_map]; exact get_at _ _ _ _
    have hq := hrec s (by rw [hl]; simp)
    have hlow := s.low
    have hrep : List.replicate (s :: r).length tz = tz :: List.replicate r.length tz := rfl
    have happ : ∀ t : Ty,acc ++ t :: List.replicate r.length tz = (acc ++ [t]) ++ List.replicate r.length tz := fun t => by simp
    have hge : (tys (acc ++ tz :: List.replicate r.length tz))[pre.length]? = some (.agg [.int .i64 0,.str []]) := tys_at hi1.symm
    have hset : ∀ (k : Int) (n : Str),(tys (acc ++ tz :: List.replicate r.length tz)).set pre.length (.agg [.int .i64 k,.str n]) = tys (acc ++ ⟨k,n⟩ :: List.replicate r.length tz) := fun k n => set_tys hi1.symm
    have hlen : (tys (acc ++ tz :: List.replicate r.length tz)).length = as.length := by rw [tys_len]; simp; omega
    rw [hrep]
    by_cases hsk : (takesF m k nm && decide (pre.length = 0)) = true
    · have ht : takesF m k nm = true := by simp at hsk; exact hsk.1
      have hp0 : (pre.length : Int) = 0 := by simp at hsk; simp [hsk.2]
      refine loopK' (c := p11l0) rfl ?_
      repeat' first | ((with_reducible first | refine cS ?_ ?_ | refine oS ?_ ?_ | refine dS ?_ ?_) <;> intro _) | ((with_reducible refine kk ?_ ?_); · rfl) | (simp -implicitDefEqProofs (disch := first | omega | assumption) only [push_cast,simprocAttr,eqTop,eqShL,eqSh,K_seq,h1,h3,h5,h6,h8,h33,h34,h35,hg,h1',Ex.low,Ex.c_len,take5,takes_ok,hm,ht]) | ((with_reducible first | refine cB ?_ ?_ | refine oB ?_ ?_ | refine dB ?_ ?_) <;> intro _)
      rw [happ]
      refine ih (pre ++ [s]) (acc ++ [tz]) _ _ _ (by simp [hl]) (by rw [← hi0,argsF,hsk]; simp [appX_cons]) (by simp [hi1]) (by simp [look,look_keepL,h1]) (by simp [look,look_keepL,h3]) (by simp [look,look_keepL,h5]) (by simp [look,look_keepL,h6]) (by simp [look,look_keepL,h8]) (by simp [look,look_keepL,h33]) (by simp [look,look_keepL,h34]) (by simp [look,look_keepL,h35])
    have hsk' : (takesF m k nm && decide (pre.length = 0)) = false := by simpa using hsk
    have ha2 : (takesF m k nm && decide ((pre ++ [s]).length = 0)) = false := by simp
    by_cases h0 : (pre.length : Int) = 0
    · have ht : takesF m k nm = false := by
        have : pre.length = 0 := by omega
        simpa [this] using hsk
      by_cases he : (exprF m sc s).2 = 0
      · have hargs : argsF m sc (takesF m k nm && decide (pre.length = 0)) (s :: r) = consX (exprF m sc s).1 (argsF m sc false r) := by rw [hsk',argsF]; simp [he]
        refine loopK' (c := p11l0) rfl ?_
        repeat' first | ((with_reducible first | refine cS ?_ ?_ | refine oS ?_ ?_ | refine dS ?_ ?_) <;> intro _) | ((with_reducible refine kk ?_ ?_); · rfl) | (simp -implicitDefEqProofs (disch := first | omega | assumption) only [push_cast,simprocAttr,eqTop,eqShL,eqSh,K_seq,h1,h3,h5,h6,h8,h33,h34,h35,hg,h1',Ex.low,Ex.c_len,take5,takes_ok,hm,ht,hq,hge,hset,hlen,he]) | ((with_reducible first | refine cB ?_ ?_ | refine oB ?_ ?_ | refine dB ?_ ?_) <;> intro _)
        rw [happ]
        refine ih (pre ++ [s]) (acc ++ [(exprF m sc s).1]) _ _ _ (by simp [hl]) (by rw [← hi0,hargs,appX_cons,ha2]) (by simp [hi1]) (by simp [look,look_keepL,h1]) (by simp [look,look_keepL,h3]) (by simp [look,look_keepL,h5]) (by simp [look,look_keepL,h6]) (by simp [look,look_keepL,h8]) (by simp [look,look_keepL,h33]) (by simp [look,look_keepL,h34]) (by simp [look,look_keepL,h35])
      · have hargs : argsF m sc (takesF m k nm && decide (pre.length = 0)) (s :: r) = .error (exprF m sc s).2 := by rw [hsk',argsF]; simp [he]
        refine loopK' (c := p11l0) rfl ?_
        repeat' first | ((with_reducible first | refine cS ?_ ?_ | refine oS ?_ ?_ | refine dS ?_ ?_) <;> intro _) | ((with_reducible refine kk ?_ ?_); · rfl) | (simp -implicitDefEqProofs (disch := first | omega | assumption) only [push_cast,simprocAttr,eqTop,eqShL,eqSh,K_seq,h1,h3,h5,h6,h8,h33,h34,h35,hg,h1',Ex.low,Ex.c_len,take5,takes_ok,hm,ht,hq]) | ((with_reducible first | refine cB ?_ ?_ | refine oB ?_ ?_ | refine dB ?_ ?_) <;> intro _)
        exact hr _ _ (s :: r) _ _ (exprF m sc s).2 (by rw [← hi0,hargs]; rfl) (by simp [look,look_keepL,h6]) (by simp [look])
    · by_cases he : (exprF m sc s).2 = 0
      · have hargs : argsF m sc (takesF m k nm && decide (pre.length = 0)) (s :: r) = consX (exprF m sc s).1 (argsF m sc false r) := by rw [hsk',argsF]; simp [he]
        refine loopK' (c := p11l0) rfl ?_
        repeat' first | ((with_reducible first | refine cS ?_ ?_ | refine oS ?_ ?_ | refine dS ?_ ?_) <;> intro _) | ((with_reducible refine kk ?_ ?_); · rfl) | (simp -implicitDefEqProofs (disch := first | omega | assumption) only [push_cast,simprocAttr,eqTop,eqShL,eqSh,K_seq,h1,h3,h5,h6,h8,h33,h34,h35,hg,h1',Ex.low,Ex.c_len,take5,takes_ok,hm,hq,hge,hset,hlen,he]) | ((with_reducible first | refine cB ?_ ?_ | refine oB ?_ ?_ | refine dB ?_ ?_) <;> intro _)
        rw [happ]
        refine ih (pre ++ [s]) (acc ++ [(exprF m sc s).1]) _ _ _ (by simp [hl]) (by rw [← hi0,hargs,appX_cons,ha2]) (by simp [hi1]) (by simp [look,look_keepL,h1]) (by simp [look,look_keepL,h3]) (by simp [look,look_keepL,h5]) (by simp [look,look_keepL,h6]) (by simp [look,look_keepL,h8]) (by simp [look,look_keepL,h33]) (by simp [look,look_keepL,h34]) (by simp [look,look_keepL,h35])
      · have hargs : argsF m sc (takesF m k nm && decide (pre.length = 0)) (s :: r) = .error (exprF m sc s).2 := by rw [hsk',argsF]; simp [he]
        refine loopK' (c := p11l0) rfl ?_
        repeat' first | ((with_reducible first | refine cS ?_ ?_ | refine oS ?_ ?_ | refine dS ?_ ?_) <;> intro _) | ((with_reducible refine kk ?_ ?_); · rfl) | (simp -implicitDefEqProofs (disch := first | omega | assumption) only [push_cast,simprocAttr,eqTop,eqShL,eqSh,K_seq,h1,h3,h5,h6,h8,h33,h34,h35,hg,h1',Ex.low,Ex.c_len,take5,takes_ok,hm,hq]) | ((with_reducible first | refine cB ?_ ?_ | refine oB ?_ ?_ | refine dB ?_ ?_) <;> intro _)
        exact hr _ _ (s :: r) _ _ (exprF m sc s).2 (by rw [← hi0,hargs]; rfl) (by simp [look,look_keepL,h6]) (by simp [look])
end Go.VI.S
