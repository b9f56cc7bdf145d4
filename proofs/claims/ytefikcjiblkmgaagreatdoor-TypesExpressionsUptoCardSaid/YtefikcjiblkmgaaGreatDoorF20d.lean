/- Chapter 20: numbers of components. -/
import Derived.Test.YtefikcjiblkmgaaGreatDoorF20c
set_option maxRecDepth 100000
set_option linter.unusedSimpArgs false
set_option linter.unusedVariables false
set_option pp.deepTerms.threshold 4
set_option pp.deepTerms false
namespace Go.VI.S
open Go.VI
def ints (zs : List Int) : List PV := zs.map (PV.int .i64)
def at' (zs : List Int) (i : Int) : Int := zs.getD i.toNat 0
theorem ints_len {zs : List Int} : (ints zs).length = zs.length := by simp [ints]
theorem ints_low {zs : List Int} : PV.lowL 0 (ints zs) = true := low_map _ (fun _ => rfl) zs
theorem ints_get {zs : List Int} {j : Int} (h0 : 0 ≤ j) (h1 : j < zs.length) : (ints zs)[j.toNat]? = some (.int .i64 (at' zs j)) := by
  have : j.toNat < zs.length := by omega
  simp [ints,at',List.getElem?_eq_getElem this]
theorem ints_app {r : List Int} {z : Int} : ints r ++ [.int .i64 z] = ints (r ++ [z]) := by simp [ints]
theorem ints_take {r : List Int} : (ints r).take r.length = ints r := List.take_of_length_le (by simp [ints])
theorem ints_take' {r : List Int} {n : Nat} (h : n = r.length) : (ints r).take n = ints r := by subst h; exact ints_take
theorem repl_ints {n : Nat} : List.replicate n (PV.int .i64 0) = ints (List.replicate n 0) := by simp [ints]
theorem at_mid {acc zs : List Int} {n j : Int} (h : j = acc.length) : at' (acc ++ n :: zs) j = n := by subst h; simp [at']
theorem at_low {acc zs : List Int} {j : Int} (h0 : 0 ≤ j) (h : j < acc.length) : at' (acc ++ zs) j = at' acc j := by
  have : j.toNat < acc.length := by omega
  simp [at',List.getD,List.getElem?_append_left this]
theorem set_mid {acc zs : List Int} {n k : Int} {j : Nat} (h : j = acc.length) : (ints (acc ++ n :: zs)).set j (.int .i64 k) = ints (acc ++ k :: zs) := by
  subst h
  simp [ints]
def compG (m : Mod) (acc : List Int) (k : Int) (nm : Str) : Int := if k = 8 then (if stF m nm < 0 ∨ acc.length ≤ stF m nm then 0 else at' acc (stF m nm)) else plainF k
def sumG (m : Mod) (acc : List Int) : List Fld → Int → Int
  | [],n => n
  | f :: r,n => sumG m acc r (if n + compG m acc f.ty.kind f.ty.name < 1000 then n + compG m acc f.ty.kind f.ty.name else 1000)
def sizG (m : Mod) : List Sct → List Int → List Int
  | [],acc => acc
  | s :: r,acc => sizG m r (acc ++ [sumG m acc s.fs 0])
def Small (l : List Int) : Prop := ∀ z ∈ l,0 ≤ z ∧ z ≤ 1000
theorem plainF_bd (k : Int) : 0 ≤ plainF k ∧ plainF k ≤ 4 := by unfold plainF; (repeat' split) <;> omega
theorem at_bd {l : List Int} (h : Small l) (j : Int) : 0 ≤ at' l j ∧ at' l j ≤ 1000 := by
  unfold at'
  rw [List.getD]
  cases hj : l[j.toNat]? with
  | none => simp
  | some z => exact h z (List.mem_of_getElem? hj)
theorem compG_bd {m : Mod} {acc : List Int} (h : Small acc) (k : Int) (nm : Str) : 0 ≤ compG m acc k nm ∧ compG m acc k nm ≤ 1000 := by
  have h1 := plainF_bd k
  have h2 := at_bd h (stF m nm)
  unfold compG
  (repeat' split) <;> omega
theorem sumG_bd {m : Mod} {acc : List Int} (h : Small acc) : ∀ (l : List Fld) (n : Int),0 ≤ n → n ≤ 1000 → 0 ≤ sumG m acc l n ∧ sumG m acc l n ≤ 1000
  | [],n,h0,h1 => ⟨h0,h1⟩
  | f :: r,n,h0,h1 => by
    have := compG_bd (m := m) h f.ty.kind f.ty.name
    unfold sumG
    exact sumG_bd h r _ (by split <;> omega) (by split <;> omega)
theorem sizG_small {m : Mod} : ∀ (l : List Sct) (acc : List Int),Small acc → Small (sizG m l acc)
  | [],acc,h => h
  | s :: r,acc,h => by
    have := sumG_bd (m := m) h s.fs 0 (by omega) (by omega)
    refine sizG_small r _ fun z hz => ?_
    rcases List.mem_append.1 hz with hz | hz
    · exact h z hz
    · simp at hz; omega
theorem sizG_len {m : Mod} : ∀ (l : List Sct) (acc : List Int),(sizG m l acc).length = acc.length + l.length
  | [],acc => by simp [sizG]
  | s :: r,acc => by rw [sizG,sizG_len r]; simp; omega
def sizF (m : Mod) : List Int := sizG m m.ss []
theorem sizF_small (m : Mod) : Small (sizF m) := sizG_small _ _ (fun z hz => by simp at hz)
theorem sizF_len (m : Mod) : (sizF m).length = m.ss.length := by simp [sizF,sizG_len]
def compF (m : Mod) (k : Int) (nm : Str) : Int := compG m (sizF m) k nm
def totF (m : Mod) (l : List Fld) : Int := sumG m (sizF m) l 0
theorem stF_bd (m : Mod) (nm : Str) : -1 ≤ stF m nm ∧ stF m nm < m.ss.length := ⟨(idxF_bd _ _).1,(idxF_bd _ _).2.1⟩
theorem sized_ok (m : Mod) (hm : m.Ok) (k : Int) (nm : Str) (f : Fl) (acc : List Int) (ha : acc.length ≤ 1048576) (h : Heap) : doCall E (callR E) 72 [.agg m.c,.agg [.int .i64 k,.str nm],.vs f (ints acc)] h = some (.int .i64 (compG m acc k nm),h) := by
  have h1 := m.hm
  have h2 := stF_bd m nm
  have h3 := hm.ss
  refine call_pure (pf := p72) rfl rfl rfl rfl (by simp [PV.lowL,PV.low,strs_low,flds_low,scts_low,funs_low,h1,ints_low]) (by simp [PV.low,PV.lowL,strs_low,flds_low,scts_low,funs_low,h1,ints_low]) ?_ h
  show kQ E _ (endQ [⟨6,none⟩] _) .norm { lvl := 0,tmps := mk 35 [(0,.agg m.c),(1,.agg [.int .i64 k,.str nm]),(2,.vs f (ints acc))],heap := [[]],defers := [] }
  repeat' first | ((with_reducible first | refine cS ?_ ?_ | refine oS ?_ ?_ | refine dS ?_ ?_) <;> intro _) | ((with_reducible refine kk ?_ ?_); · rfl) | (simp -implicitDefEqProofs (disch := first | omega | assumption) only [push_cast,simprocAttr,eqTop,eqShL,eqSh,K_seq,h1,ints_low,rsc_ok,rvc_ok,rfind_ok,isSc,isVc,ints_len,ints_get,hm]) | ((with_reducible first | refine cB ?_ ?_ | refine oB ?_ ?_ | refine dB ?_ ?_) <;> intro _)
  all_goals (unfold compG plainF; congr 1; (repeat' split) <;> first | omega | rfl)
theorem sum_loop (m : Mod) (hm : m.Ok) {fl f : Fl} (fs : List Fld) (hf : fs.length ≤ 1048576) (acc : List Int) (ha : acc.length ≤ 1048576) (hs : Small acc) (fin : Int) {ks : List KI} {Q : PEx → Fr → Prop}
    (hn : ∀ t,look t 7 = .int .i64 fin → kQ E ks Q .norm { lvl := 0,tmps := mk 27 t,heap := [[]],defers := [] }) :
    ∀ (rest pre : List Fld) (n : Int) (t : List (Nat × PV)),fs = pre ++ rest → sumG m acc rest n = fin → 0 ≤ n → n ≤ 1000 →
      look t 1 = .vs fl (flds fs) → look t 2 = .vs f (ints acc) → look t 3 = .ip m.c → look t 7 = .int .i64 n → look t 8 = .int .i64 pre.length →
      kQ E (.code p74l0 :: .blk 0 :: ks) Q .norm { lvl := 0,tmps := mk 27 t,heap := [[]],defers := [] } := by
  intro rest
  have pu72 : pureB E 72 = true := rfl
  induction rest with
  | nil =>
    intro pre n t hl hi h0n h1n h1 h2 h3 h7 h8
    have e : fs.length = pre.length := by rw [hl]; simp
    refine loopK' (c := p74l0) rfl ?_
    repeat' first | ((with_reducible first | refine cS ?_ ?_ | refine oS ?_ ?_ | refine dS ?_ ?_) <;> intro _) | ((with_reducible refine kk ?_ ?_); · rfl) | (simp -implicitDefEqProofs (disch := first | omega | assumption) only [push_cast,simprocAttr,eqTop,eqShL,eqSh,K_seq,h1,h2,h3,h7,h8,e]) | ((with_reducible first | refine cB ?_ ?_ | refine oB ?_ ?_ | refine dB ?_ ?_) <;> intro _)
    simp only [sumG] at hi
    subst hi
    exact hn _ (by simp [look,look_keepL,h7])
  | cons s r ih =>
    intro pre n t hl hi h0n h1n h1 h2 h3 h7 h8
    have e : fs.length = pre.length + r.length + 1 := by rw [hl]; simp; omega
    have hg : (flds fs)[pre.length]? = some (.agg [.str s.name,.int .i64 s.ty.kind,.str s.ty.name]) := by rw [hl]; exact get_at _ _ _ _
    have hc := compG_bd (m := m) hs s.ty.kind s.ty.name
    refine loopK' (c := p74l0) rfl ?_
    repeat' first | ((with_reducible first | refine cS ?_ ?_ | refine oS ?_ ?_ | refine dS ?_ ?_) <;> intro _) | ((with_reducible refine kk ?_ ?_); · rfl) | (simp -implicitDefEqProofs (disch := first | omega | assumption) only [push_cast,simprocAttr,eqTop,eqShL,eqSh,K_seq,h1,h2,h3,h7,h8,hg,sized_ok,hm,ha]) | ((with_reducible first | refine cB ?_ ?_ | refine oB ?_ ?_ | refine dB ?_ ?_) <;> intro _)
    refine ih (pre ++ [s]) (if n + compG m acc s.ty.kind s.ty.name < 1000 then n + compG m acc s.ty.kind s.ty.name else 1000) _ (by simp [hl]) (by rw [← hi]; rfl) (by split <;> omega) (by split <;> omega) (by simp [look,look_keepL,h1]) (by simp [look,look_keepL,h2]) (by simp [look,look_keepL,h3]) ?_ (by simp [look,look_keepL])
    simp [look,look_keepL]
theorem sum_ok (m : Mod) (hm : m.Ok) (fl f : Fl) (fs : List Fld) (hf : fs.length ≤ 1048576) (acc : List Int) (ha : acc.length ≤ 1048576) (hs : Small acc) (h : Heap) : doCall E (callR E) 74 [.agg m.c,.vs fl (flds fs),.vs f (ints acc)] h = some (.int .i64 (sumG m acc fs 0),h) := by
  have h1 := m.hm
  refine call_pure (pf := p74) rfl rfl rfl rfl (by simp [PV.lowL,PV.low,strs_low,flds_low,scts_low,funs_low,h1,ints_low]) (by simp [PV.low,PV.lowL,strs_low,flds_low,scts_low,funs_low,h1,ints_low]) ?_ h
  show kQ E _ (endQ [⟨6,none⟩] _) .norm { lvl := 0,tmps := mk 27 [(0,.agg m.c),(1,.vs fl (flds fs)),(2,.vs f (ints acc))],heap := [[]],defers := [] }
  repeat' first | ((with_reducible first | refine cS ?_ ?_ | refine oS ?_ ?_ | refine dS ?_ ?_) <;> intro _) | ((with_reducible refine kk ?_ ?_); · rfl) | (simp -implicitDefEqProofs (disch := first | omega | assumption) only [push_cast,simprocAttr,eqTop,eqShL,eqSh,K_seq,h1,ints_low]) | ((with_reducible first | refine cB ?_ ?_ | refine oB ?_ ?_ | refine dB ?_ ?_) <;> intro _)
  refine sum_loop m hm (fl := fl) (f := f) fs hf acc ha hs _ ?_ fs [] 0 _ rfl rfl (by omega) (by omega) (by simp [look,look_keepL]) (by simp [look,look_keepL]) (by simp [look,look_keepL]) (by simp [look,look_keepL]) (by simp [look,look_keepL])
  intro t h7
  repeat' first | ((with_reducible first | refine cS ?_ ?_ | refine oS ?_ ?_ | refine dS ?_ ?_) <;> intro _) | ((with_reducible refine kk ?_ ?_); · rfl) | (simp -implicitDefEqProofs (disch := first | omega | assumption) only [push_cast,simprocAttr,eqTop,eqShL,eqSh,K_seq,h7]) | ((with_reducible first | refine cB ?_ ?_ | refine oB ?_ ?_ | refine dB ?_ ?_) <;> intro _)
end Go.VI.S
