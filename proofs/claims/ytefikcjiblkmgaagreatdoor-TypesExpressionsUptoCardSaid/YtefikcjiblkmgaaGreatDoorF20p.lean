/- Chapter 20: calls that take a resource. -/
import Derived.Test.YtefikcjiblkmgaaGreatDoorF20o
import Derived.Test.YtefikcjiblkmgaaGreatDoorVi46
set_option maxRecDepth 100000
set_option linter.unusedSimpArgs false
set_option linter.unusedVariables false
set_option pp.deepTerms.threshold 4
set_option pp.deepTerms false
namespace Go.VI.S
open Go.VI
theorem tyl_loop {fa fb : Fl} (a b : List Ty) (ha : a.length ≤ 1048576) (hab : a.length = b.length) {ks : List KI} {Q : PEx → Fr → Prop}
    (hr : ∀ t,a ≠ b → look t 4 = .bool false → kQ E ks Q .ret { lvl := 0,tmps := mk 26 t,heap := [[]],defers := [] })
    (hn : ∀ t,a = b → kQ E ks Q .norm { lvl := 0,tmps := mk 26 t,heap := [[]],defers := [] }) :
    ∀ (ra pa rb pb : List Ty) (t : List (Nat × PV)),a = pa ++ ra → b = pb ++ rb → pa = pb →
      look t 0 = .vs fa (tys a) → look t 1 = .vs fb (tys b) → look t 12 = .int .i64 a.length → look t 13 = .int .i64 pa.length →
      kQ E (.code p158l0 :: .blk 0 :: ks) Q .norm { lvl := 0,tmps := mk 26 t,heap := [[]],defers := [] } := by
  intro ra
  induction ra with
  | nil =>
    intro pa rb pb t h1 h2 hp k0 k1 k12 k13
    have e : a.length = pa.length := by rw [h1]; simp
    have hrb : rb = [] := by
      have := congrArg List.length h2
      simp at this
      subst hp
      exact List.eq_nil_of_length_eq_zero (by omega)
    refine loopK' (c := p158l0) rfl ?_
    repeat' first | ((with_reducible first | refine cS ?_ ?_ | refine oS ?_ ?_ | refine dS ?_ ?_) <;> intro _) | ((with_reducible refine kk ?_ ?_); · rfl) | (simp -implicitDefEqProofs (disch := first | omega | assumption) only [push_cast,simprocAttr,eqTop,eqShL,eqSh,K_seq,k0,k1,k12,k13,e]) | ((with_reducible first | refine cB ?_ ?_ | refine oB ?_ ?_ | refine dB ?_ ?_) <;> intro _)
    exact hn _ (by rw [h1,h2,hp,hrb])
  | cons x r ih =>
    intro pa rb pb t h1 h2 hp k0 k1 k12 k13
    subst hp
    have e : a.length = pa.length + r.length + 1 := by rw [h1]; simp; omega
    cases rb with
    | nil => exfalso; have := congrArg List.length h2; simp at this; omega
    | cons y s =>
      have g1 : (tys a)[pa.length]? = some (.agg [.int .i64 x.kind,.str x.name]) := by rw [h1]; exact get_at _ _ _ _
      have g2 : (tys b)[pa.length]? = some (.agg [.int .i64 y.kind,.str y.name]) := by rw [h2]; exact get_at _ _ _ _
      refine loopK' (c := p158l0) rfl ?_
      by_cases hxy : x = y
      · have pt := eq_true hxy
        repeat' first | ((with_reducible first | refine cS ?_ ?_ | refine oS ?_ ?_ | refine dS ?_ ?_) <;> intro _) | ((with_reducible refine kk ?_ ?_); · rfl) | (simp -implicitDefEqProofs (disch := first | omega | assumption) only [push_cast,simprocAttr,K_seq,ty_eq,ty_eta,k0,k1,k12,k13,g1,g2,pt]) | ((with_reducible first | refine cB ?_ ?_ | refine oB ?_ ?_ | refine dB ?_ ?_) <;> intro _)
        refine ih (pa ++ [x]) s (pa ++ [y]) _ (by simp [h1]) (by simp [h2]) (by rw [hxy]) (by simp [look,look_keepL,k0]) (by simp [look,look_keepL,k1]) (by simp [look,look_keepL,k12]) (by simp [look,look_keepL])
      · have pt := eq_false hxy
        repeat' first | ((with_reducible first | refine cS ?_ ?_ | refine oS ?_ ?_ | refine dS ?_ ?_) <;> intro _) | ((with_reducible refine kk ?_ ?_); · rfl) | (simp -implicitDefEqProofs (disch := first | omega | assumption) only [push_cast,simprocAttr,K_seq,ty_eq,ty_eta,k0,k1,k12,k13,g1,g2,pt]) | ((with_reducible first | refine cB ?_ ?_ | refine oB ?_ ?_ | refine dB ?_ ?_) <;> intro _)
        exact hr _ (by rw [h1,h2]; simpa using fun h => absurd h hxy) (by simp [look])
theorem tyl_ok (fa fb : Fl) (a b : List Ty) (ha : a.length ≤ 1048576) (hab : a.length = b.length) (h : Heap) : doCall E (callR E) 158 [.vs fa (tys a),.vs fb (tys b)] h = some (.bool (decide (a = b)),h) := by
  refine call_pure (pf := p158) rfl rfl rfl rfl (by simp [PV.lowL,PV.low,tys_low]) (by simp [PV.low,PV.lowL,tys_low]) ?_ h
  show kQ E _ (endQ [⟨4,none⟩] _) .norm { lvl := 0,tmps := mk 26 [(0,.vs fa (tys a)),(1,.vs fb (tys b))],heap := [[]],defers := [] }
  repeat' first | ((with_reducible first | refine cS ?_ ?_ | refine oS ?_ ?_ | refine dS ?_ ?_) <;> intro _) | ((with_reducible refine kk ?_ ?_); · rfl) | (simp -implicitDefEqProofs (disch := first | omega | assumption) only [push_cast,simprocAttr,eqTop,eqShL,eqSh,K_seq,tys_len]) | ((with_reducible first | refine cB ?_ ?_ | refine oB ?_ ?_ | refine dB ?_ ?_) <;> intro _)
  refine tyl_loop (fa := fa) (fb := fb) a b ha hab ?_ ?_ a [] b [] _ rfl rfl rfl (by simp [look,look_keepL]) (by simp [look,look_keepL]) (by simp [look,look_keepL]) (by simp [look,look_keepL])
  · intro t hne h4
    repeat' first | ((with_reducible first | refine cS ?_ ?_ | refine oS ?_ ?_ | refine dS ?_ ?_) <;> intro _) | ((with_reducible refine kk ?_ ?_); · rfl) | (simp -implicitDefEqProofs (disch := first | omega | assumption) only [push_cast,simprocAttr,eqTop,eqShL,eqSh,K_seq,h4]) | ((with_reducible first | refine cB ?_ ?_ | refine oB ?_ ?_ | refine dB ?_ ?_) <;> intro _)
    all_goals simp [hne]
  · intro t he
    repeat' first | ((with_reducible first | refine cS ?_ ?_ | refine oS ?_ ?_ | refine dS ?_ ?_) <;> intro _) | ((with_reducible refine kk ?_ ?_); · rfl) | (simp -implicitDefEqProofs (disch := first | omega | assumption) only [push_cast,simprocAttr,eqTop,eqShL,eqSh,K_seq]) | ((with_reducible first | refine cB ?_ ?_ | refine oB ?_ ?_ | refine dB ?_ ?_) <;> intro _)
    all_goals simp [he]
def valF (rest want : List Ty) (res : Ty) : Ty × Int := if rest.length ≠ want.length then (tz,11) else typedF (decide (rest = want)) res
theorem val_ok (fr fw : Fl) (rest want : List Ty) (res : Ty) (hb : rest.length ≤ 1048576) (h : Heap) : doCall E (callR E) 157 [.agg [.int .i64 res.kind,.str res.name],.vs fw (tys want),.ip [.vs fr (tys rest)]] h = some (encR (valF rest want res),h) := by
  refine call_pure (pf := p157) rfl rfl rfl rfl (by simp [PV.lowL,PV.low,tys_low]) (by simp [PV.low,PV.lowL,tys_low]) ?_ h
  show kQ E _ (endQ [⟨5,some (some 2)⟩,⟨6,none⟩] _) .norm { lvl := 0,tmps := mk 20 [(0,.agg [.int .i64 res.kind,.str res.name]),(1,.vs fw (tys want)),(2,.ip [.vs fr (tys rest)])],heap := [[none]],defers := [] }
  have pu158 : pureB E 158 = true := rfl
  by_cases hl : rest.length = want.length
  · repeat' first | ((with_reducible first | refine cS ?_ ?_ | refine oS ?_ ?_ | refine dS ?_ ?_) <;> intro _) | ((with_reducible refine kk ?_ ?_); · rfl) | (simp -implicitDefEqProofs (disch := first | omega | assumption) only [push_cast,simprocAttr,eqTop,eqShL,eqSh,K_seq,tys_len,hl,tyl_ok,hb,tys_low,typed_okd]) | ((with_reducible first | refine cB ?_ ?_ | refine oB ?_ ?_ | refine dB ?_ ?_) <;> intro _)
    all_goals simp [valF,hl]
  · repeat' first | ((with_reducible first | refine cS ?_ ?_ | refine oS ?_ ?_ | refine dS ?_ ?_) <;> intro _) | ((with_reducible refine kk ?_ ?_); · rfl) | (simp -implicitDefEqProofs (disch := first | omega | assumption) only [push_cast,simprocAttr,eqTop,eqShL,eqSh,K_seq,tys_len,hl]) | ((with_reducible first | refine cB ?_ ?_ | refine oB ?_ ?_ | refine dB ?_ ?_) <;> intro _)
    all_goals simp [valF,hl]
theorem val_own (fr fw : Fl) (rest want : List Ty) (res : Ty) (hb : rest.length ≤ 1048576) (o0 o1 o3 o4 : Option Ob) : doCall E (callR E) 157 [.agg [.int .i64 res.kind,.str res.name],.vs fw (tys want),.ptr (0,2) 1 0 0] [[o0,o1,some (.mem [.vs fr (tys rest)] 1 false 1),o3,o4]] = some (encR (valF rest want res),[[o0,o1,some (.mem [.vs fr (tys rest)] 1 false 1),o3,o4]]) := by
  refine call_snap (pf := p157) (args' := [.agg [.int .i64 res.kind,.str res.name],.vs fw (tys want),.ip [.vs fr (tys rest)]]) rfl rfl (by simp [PV.lowL,PV.low,tys_low]; rfl) ?_ (by simp [PV.lowL,PV.low,tys_low]) (val_ok fr fw rest want res hb _) rfl
  simp [mapO,snap,PV.low,PV.lowL,tys_low,hget,PV.cells]
def resourceF (m : Mod) (sc : List Fld) (nm : Str) (as : List Ex) (ts : List Ty) : Ty × Int :=
  match as with
  | [] => (tz,11)
  | a :: _ => if a.kind ≠ 4 ∨ a.args.length > 0 then (tz,13)
    else if nm = [115,97,109,112,108,101] ∨ nm = [102,101,116,99,104] then
      (if sidxF m.ts a.name < 0 then (tz,13) else if nm = [115,97,109,112,108,101] then valF (ts.drop 1) [⟨5,[]⟩,⟨1,[]⟩] ⟨7,[]⟩ else valF (ts.drop 1) [⟨3,[]⟩,⟨3,[]⟩,⟨3,[]⟩] ⟨7,[]⟩)
    else if nm = [108,111,97,100] then (if sidxF m.bs a.name < 0 then (tz,13) else valF (ts.drop 1) [⟨3,[]⟩] ⟨3,[]⟩)
    else if fdF m.ins a.name < 0 ∨ 0 ≤ fdF sc a.name then (tz,13)
    else if ts.length > 1 then (tz,11)
    else if tyAt m.ins (fdF m.ins a.name) ≠ ⟨1,[]⟩ ∧ isVc (tyAt m.ins (fdF m.ins a.name)).kind = false then (tz,12)
    else if m.stage ≠ 3 then (tz,10) else (tyAt m.ins (fdF m.ins a.name),0)
theorem val1 (fr fw : Fl) (rest : List Ty) (hb : rest.length ≤ 1048576) (o0 o1 o3 o4 : Option Ob) : doCall E (callR E) 157 [.agg [.int .i64 3,.str []],.vs fw [.agg [.int .i64 3,.str []]],.ptr (0,2) 1 0 0] [[o0,o1,some (.mem [.vs fr (tys rest)] 1 false 1),o3,o4]] = some (encR (valF rest [⟨3,[]⟩] ⟨3,[]⟩),[[o0,o1,some (.mem [.vs fr (tys rest)] 1 false 1),o3,o4]]) := val_own fr fw rest [⟨3,[]⟩] ⟨3,[]⟩ hb o0 o1 o3 o4
theorem val2 (fr fw : Fl) (rest : List Ty) (hb : rest.length ≤ 1048576) (o0 o1 o3 o4 : Option Ob) : doCall E (callR E) 157 [.agg [.int .i64 7,.str []],.vs fw [.agg [.int .i64 5,.str []],.agg [.int .i64 1,.str []]],.ptr (0,2) 1 0 0] [[o0,o1,some (.mem [.vs fr (tys rest)] 1 false 1),o3,o4]] = some (encR (valF rest [⟨5,[]⟩,⟨1,[]⟩] ⟨7,[]⟩),[[o0,o1,some (.mem [.vs fr (tys rest)] 1 false 1),o3,o4]]) := val_own fr fw rest [⟨5,[]⟩,⟨1,[]⟩] ⟨7,[]⟩ hb o0 o1 o3 o4
theorem val3 (fr fw : Fl) (rest : List Ty) (hb : rest.length ≤ 1048576) (o0 o1 o3 o4 : Option Ob) : doCall E (callR E) 157 [.agg [.int .i64 7,.str []],.vs fw [.agg [.int .i64 3,.str []],.agg [.int .i64 3,.str []],.agg [.int .i64 3,.str []]],.ptr (0,2) 1 0 0] [[o0,o1,some (.mem [.vs fr (tys rest)] 1 false 1),o3,o4]] = some (encR (valF rest [⟨3,[]⟩,⟨3,[]⟩,⟨3,[]⟩] ⟨7,[]⟩),[[o0,o1,some (.mem [.vs fr (tys rest)] 1 false 1),o3,o4]]) := val_own fr fw rest [⟨3,[]⟩,⟨3,[]⟩,⟨3,[]⟩] ⟨7,[]⟩ hb o0 o1 o3 o4
end Go.VI.S
