/- Chapter 16: triangles; the law AssembleTriangles, evaluated. -/
import Derived.Test.YteodaifeknghaaaF16d
set_option maxRecDepth 100000
set_option linter.unusedSimpArgs false
namespace Go.VI.S
open Go.VI
def cornF (t i : Int) : Int × Int × Int :=
  if t = 1 then (3 * i,3 * i + 1,3 * i + 2) else if t = 3 then (0,i + 1,i + 2) else if i % 2 = 1 then (i,i + 2,i + 1) else (i,i + 1,i + 2)
theorem corn_ok (t i : Int) (h1 : 0 ≤ i) (h2 : i ≤ 1048576) (h : Heap) : doCall E (callR E) 28 [.int .i64 t,.int .i64 i] h = some (tri (cornF t i).1 (cornF t i).2.1 (cornF t i).2.2,h) := by
  refine call_pure (pf := p28) rfl rfl rfl rfl (by simp [PV.lowL,PV.low,tri_low]) (by simp [PV.low,PV.lowL,tri_low]) ?_ h
  show kQ E _ (endQ [⟨4,some (some 3)⟩] _) .norm { lvl := 0,tmps := mk 39 [(0,.int .i64 t),(1,.int .i64 i)],heap := [[none]],defers := [] }
  repeat' first | ((with_reducible first | refine cS ?_ ?_ | refine oS ?_ ?_ | refine dS ?_ ?_) <;> intro _) | ((with_reducible refine kk ?_ ?_); · rfl) | (simp -implicitDefEqProofs (disch := first | omega | assumption) only [push_cast,simprocAttr,eqTop,eqShL,eqSh,K_seq,tmod2]) | ((with_reducible first | refine cB ?_ ?_ | refine oB ?_ ?_ | refine dB ?_ ?_) <;> intro _)
  all_goals (unfold cornF tri; (repeat' split) <;> first | rfl | omega)
def triT (t : Int) (zs : List Int) (i : Int) : Int × Int × Int := (at' zs (cornF t i).1,at' zs (cornF t i).2.1,at' zs (cornF t i).2.2)
theorem triF_in {t i : Int} {zs : List Int} (h1 : 0 ≤ i) (h2 : i < countF t zs.length) : triF t zs i = (tri (triT t zs i).1 (triT t zs i).2.1 (triT t zs i).2.2,true) := by
  unfold triF triT cornF
  rw [if_neg (by omega)]
  (repeat' split) <;> rfl
theorem triF_out {t i : Int} {zs : List Int} (h : i < 0 ∨ countF t zs.length ≤ i) : triF t zs i = (tri 0 0 0,false) := by
  unfold triF
  rw [if_pos h]
theorem rtri_ok (t i : Int) (f : Fl) (zs : List Int) (hn : (zs.length : Int) ≤ 1048576) (h : Heap) :
    doCall E (callR E) 11 [.int .i64 t,.vs f (ints zs),.int .i64 i] h = some (.tuple [(triF t zs i).1,.bool (triF t zs i).2],h) := by
  have hb := count_idx t i zs.length
  have hle := count_le t zs.length
  by_cases hin : 0 ≤ i ∧ i < countF t zs.length
  · have hc : 0 ≤ (cornF t i).1 ∧ (cornF t i).1 < zs.length ∧ 0 ≤ (cornF t i).2.1 ∧ (cornF t i).2.1 < zs.length ∧ 0 ≤ (cornF t i).2.2 ∧ (cornF t i).2.2 < zs.length := by
      unfold cornF
      (repeat' split) <;> (simp only; omega)
    rw [triF_in hin.1 hin.2]
    simp only
    refine call_pure (pf := p11) rfl rfl rfl rfl (by simp [PV.lowL,PV.low,tri_low]) (by simp [PV.low,PV.lowL,tri_low]) ?_ h
    show kQ E _ (endQ [⟨6,some (some 3)⟩,⟨7,none⟩] _) .norm { lvl := 0,tmps := mk 39 [(0,.int .i64 t),(1,.vs f (ints zs)),(2,.int .i64 i)],heap := [[none,none]],defers := [] }
    repeat' first | ((with_reducible first | refine cS ?_ ?_ | refine oS ?_ ?_ | refine dS ?_ ?_) <;> intro _) | ((with_reducible refine kk ?_ ?_); · rfl) | (simp -implicitDefEqProofs (disch := first | omega | assumption) only [push_cast,simprocAttr,eqTop,eqShL,eqSh,K_seq,rcount_ok,corn_ok,ints_len,ints_get]) | ((with_reducible first | refine cB ?_ ?_ | refine oB ?_ ?_ | refine dB ?_ ?_) <;> intro _)
    all_goals rfl
  · rw [triF_out (by omega)]
    simp only
    refine call_pure (pf := p11) rfl rfl rfl rfl (by simp [PV.lowL,PV.low,tri_low]) (by simp [PV.low,PV.lowL,tri_low]) ?_ h
    show kQ E _ (endQ [⟨6,some (some 3)⟩,⟨7,none⟩] _) .norm { lvl := 0,tmps := mk 39 [(0,.int .i64 t),(1,.vs f (ints zs)),(2,.int .i64 i)],heap := [[none,none]],defers := [] }
    repeat' first | ((with_reducible first | refine cS ?_ ?_ | refine oS ?_ ?_ | refine dS ?_ ?_) <;> intro _) | ((with_reducible refine kk ?_ ?_); · rfl) | (simp -implicitDefEqProofs (disch := first | omega | assumption) only [push_cast,simprocAttr,eqTop,eqShL,eqSh,K_seq,rcount_ok,corn_ok,ints_len,ints_get]) | ((with_reducible first | refine cB ?_ ?_ | refine oB ?_ ?_ | refine dB ?_ ?_) <;> intro _)
theorem tri_ok' (t i : Int) (f : Fl) (zs : List Int) (hn : (zs.length : Int) ≤ 1048576) (h1 : 0 ≤ i) (h2 : i < countF t zs.length) (h : Heap) :
    doCall E (callR E) 10 [.int .i64 t,.vs f (ints zs),.int .i64 i] h = some (.tuple [tri (triT t zs i).1 (triT t zs i).2.1 (triT t zs i).2.2,.bool true],h) := by
  rw [tri_ok t i f zs (by omega) h,triF_in h1 h2]
theorem rtri_ok' (t i : Int) (f : Fl) (zs : List Int) (hn : (zs.length : Int) ≤ 1048576) (h1 : 0 ≤ i) (h2 : i < countF t zs.length) (h : Heap) :
    doCall E (callR E) 11 [.int .i64 t,.vs f (ints zs),.int .i64 i] h = some (.tuple [tri (triT t zs i).1 (triT t zs i).2.1 (triT t zs i).2.2,.bool true],h) := by
  rw [rtri_ok t i f zs hn h,triF_in h1 h2]
abbrev T3 := Int × Int × Int
def encT (l : List T3) : List PV := l.map fun p => tri p.1 p.2.1 p.2.2
theorem encT_len {l : List T3} : (encT l).length = l.length := by simp [encT]
theorem encT_take {l : List T3} : (encT l).take l.length = encT l := List.take_of_length_le (by simp [encT])
theorem encT_app {l : List T3} {p : T3} : encT l ++ [.agg [.int .i64 p.1,.int .i64 p.2.1,.int .i64 p.2.2]] = encT (l ++ [p]) := by simp [encT]
theorem encT_hsz {l : List T3} : headSz 3 (encT l) = true := by
  cases l <;> simp [encT,headSz,PV.cells]
def trisR (t : Int) (r : List Int) : Nat → Nat → List T3
  | _,0 => []
  | i,m + 1 => triT t r i :: trisR t r (i + 1) m
theorem trisR_len {t : Int} {r : List Int} : ∀ {m i : Nat},(trisR t r i m).length = m
  | 0,_ => rfl
  | m + 1,i => by simp [trisR,trisR_len]
def trisL (t : Int) : List (List Int) → List T3
  | [] => []
  | r :: l => trisR t r 0 (countF t r.length).toNat ++ trisL t l
def sumL : List (List Int) → Nat
  | [] => 0
  | r :: l => r.length + sumL l
theorem tl_in {t : Int} {f : Fl} {r : List Int} (hr : (r.length : Int) ≤ 1048576) {h12 h13 h14 : PV} {ks : List KI} {Q : PEx → Fr → Prop} {fin : List T3}
    (hpost : ∀ l g1 ob,look l 0 = .int .i64 t → look l 5 = .sl (0,0) g1 0 fin.length → look l 12 = h12 → look l 13 = h13 → look l 14 = h14 → kQ E ks Q .norm { lvl := 0,tmps := mk 39 l,heap := [[some (.mem (encT fin) g1 true 3),ob,none]],defers := [] }) :
    ∀ (m i : Nat) (out : List T3) (g1 : Nat) (ob : Option Ob) (l : List (Nat × PV)),(i : Int) + m = countF t r.length → out.length + m ≤ 1048576 → out ++ trisR t r i m = fin →
      look l 0 = .int .i64 t → look l 5 = .sl (0,0) g1 0 out.length → look l 7 = .vs f (ints r) → look l 12 = h12 → look l 13 = h13 → look l 14 = h14 → look l 21 = .int .i64 (countF t r.length) → look l 22 = .int .i64 i →
      kQ E (.code p13l1 :: .blk 2 :: ks) Q .norm { lvl := 0,tmps := mk 39 l,heap := [[some (.mem (encT out) g1 true 3),ob,none]],defers := [] } := by
  intro m
  induction m with
  | zero =>
    intro i out g1 ob l hi hb hf h0 h5 h7 e12 e13 e14 h21 h22
    refine loopK' (c := p13l1) rfl ?_
    repeat' first | ((with_reducible first | refine cS ?_ ?_ | refine oS ?_ ?_ | refine dS ?_ ?_) <;> intro _) | ((with_reducible refine kk ?_ ?_); · rfl) | (simp -implicitDefEqProofs (disch := first | omega | assumption) only [push_cast,simprocAttr,eqTop,eqShL,eqSh,K_seq,h0,h5,h7,h21,h22]) | ((with_reducible first | refine cB ?_ ?_ | refine oB ?_ ?_ | refine dB ?_ ?_) <;> intro _)
    have : fin = out := by rw [← hf]; simp [trisR]
    subst this
    exact hpost _ _ _ (by simp [look,look_keepL,h0]) (by simp [look,look_keepL,h5]) (by simp [look,look_keepL,e12]) (by simp [look,look_keepL,e13]) (by simp [look,look_keepL,e14])
  | succ m ih =>
    intro i out g1 ob l hi hb hf h0 h5 h7 e12 e13 e14 h21 h22
    have hle := count_le t r.length
    refine loopK' (c := p13l1) rfl ?_
    repeat' first | ((with_reducible first | refine cS ?_ ?_ | refine oS ?_ ?_ | refine dS ?_ ?_) <;> intro _) | ((with_reducible refine kk ?_ ?_); · rfl) | (simp -implicitDefEqProofs (disch := first | omega | assumption) only [push_cast,simprocAttr,eqTop,eqShL,eqSh,K_seq,h0,h5,h7,h21,h22,tri_ok',encT_len,encT_take,encT_app]) | ((with_reducible first | refine cB ?_ ?_ | refine oB ?_ ?_ | refine dB ?_ ?_) <;> intro _)
    exact ih (i + 1) (out ++ [triT t r i]) _ _ _ (by omega) (by simp; omega) (by rw [← hf]; simp [trisR]) (by simp [look,look_keepL,h0]) (by simp [look,look_keepL]) (by simp [look,look_keepL,h7]) (by simp [look,look_keepL,e12]) (by simp [look,look_keepL,e13]) (by simp [look,look_keepL,e14]) (by simp [look,look_keepL,h21]) (by simp [look])
theorem countN {t : Int} {n : Nat} : (((countF t n).toNat : Nat) : Int) = countF t n := by
  have : 0 ≤ countF t n := by unfold countF; (repeat' split) <;> omega
  omega
theorem tl_out {t : Int} {ks : List KI} {Q : PEx → Fr → Prop} {fin : List T3} {L : List (List Int)} (hL : L.length ≤ 1048576) (hE : ∀ i : Nat,i < L.length → (rAt L i).length ≤ 1048576)
    (hpost : ∀ l g1 ob,look l 5 = .sl (0,0) g1 0 fin.length → kQ E ks Q .norm { lvl := 0,tmps := mk 39 l,heap := [[some (.mem (encT fin) g1 true 3),ob,none]],defers := [] }) :
    ∀ (rest pre : List (List Int)) (out : List T3) (g1 : Nat) (ob : Option Ob) (l : List (Nat × PV)),L = pre ++ rest → out.length + sumL rest ≤ 1048576 → out ++ trisL t rest = fin →
      look l 0 = .int .i64 t → look l 5 = .sl (0,0) g1 0 out.length → look l 12 = .vs .any (encRs L) → look l 13 = .int .i64 L.length → look l 14 = .int .i64 pre.length →
      kQ E (.code p13l0 :: .blk 0 :: ks) Q .norm { lvl := 0,tmps := mk 39 l,heap := [[some (.mem (encT out) g1 true 3),ob,none]],defers := [] } := by
  intro rest
  induction rest with
  | nil =>
    intro pre out g1 ob l hp hb hf h0 h5 h12 h13 h14
    have hlen : L.length = pre.length := by rw [hp]; simp
    refine loopK' (c := p13l0) rfl ?_
    repeat' first | ((with_reducible first | refine cS ?_ ?_ | refine oS ?_ ?_ | refine dS ?_ ?_) <;> intro _) | ((with_reducible refine kk ?_ ?_); · rfl) | (simp -implicitDefEqProofs (disch := first | omega | assumption) only [push_cast,simprocAttr,eqTop,eqShL,eqSh,K_seq,h0,h5,h12,h13,h14]) | ((with_reducible first | refine cB ?_ ?_ | refine oB ?_ ?_ | refine dB ?_ ?_) <;> intro _)
    have : fin = out := by rw [← hf]; simp [trisL]
    subst this
    exact hpost _ _ _ (by simp [look,look_keepL,h5])
  | cons r rest ih =>
    intro pre out g1 ob l hp hb hf h0 h5 h12 h13 h14
    have hlen : L.length = pre.length + rest.length + 1 := by rw [hp]; simp; omega
    have hget : rAt L pre.length = r := by rw [hp]; simp [rAt]
    have hr : r.length ≤ 1048576 := by have := hE pre.length (by omega); rwa [hget] at this
    have hle := count_le t r.length
    have hcn := countN (t := t) (n := r.length)
    simp only [sumL] at hb
    refine loopK' (c := p13l0) rfl ?_
    repeat' first | ((with_reducible first | refine cS ?_ ?_ | refine oS ?_ ?_ | refine dS ?_ ?_) <;> intro _) | ((with_reducible refine kk ?_ ?_); · rfl) | (simp -implicitDefEqProofs (disch := first | omega | assumption) only [push_cast,simprocAttr,eqTop,eqShL,eqSh,K_seq,h0,h5,h12,h13,h14,encRs_len,encRs_get,hget,ints_len,count_ok]) | ((with_reducible first | refine cB ?_ ?_ | refine oB ?_ ?_ | refine dB ?_ ?_) <;> intro _)
    refine tl_in (t := t) (f := .any) (r := r) (by omega) (h12 := .vs .any (encRs L)) (h13 := .int .i64 L.length) (h14 := .int .i64 pre.length) (fin := out ++ trisR t r 0 (countF t r.length).toNat) ?_ (countF t r.length).toNat 0 out _ _ _ (by simp [hcn]) (by omega) rfl
      (by simp [look,look_keepL,h0]) (by simp [look,look_keepL,h5]) (by simp [look,look_keepL]) (by simp [look,look_keepL,h12]) (by simp [look,look_keepL,h13]) (by simp [look,look_keepL,h14]) (by simp [look]) (by simp [look])
    intro l' g1' ob' h0' h5' h12' h13' h14'
    repeat' first | ((with_reducible first | refine cS ?_ ?_ | refine oS ?_ ?_ | refine dS ?_ ?_) <;> intro _) | ((with_reducible refine kk ?_ ?_); · rfl) | (simp -implicitDefEqProofs (disch := first | omega | assumption) only [push_cast,simprocAttr,eqTop,eqShL,eqSh,K_seq,h0',h5',h12',h13',h14']) | ((with_reducible first | refine cB ?_ ?_ | refine oB ?_ ?_ | refine dB ?_ ?_) <;> intro _)
    exact ih (pre ++ [r]) _ _ _ _ (by simp [hp]) (by simp [trisR_len]; omega) (by rw [← hf]; simp [trisL]) (by simp [look,look_keepL,h0']) (by simp [look,look_keepL,h5']) (by simp [look,look_keepL,h12']) (by simp [look,look_keepL,h13']) (by simp [look])
theorem sumL_app : ∀ (l m : List (List Int)),sumL (l ++ m) = sumL l + sumL m
  | [],m => by simp [sumL]
  | r :: l,m => by simp [sumL,sumL_app l m]; omega
theorem sum_runs : ∀ (zs run : List Int) (out : List (List Int)),sumL (runsG zs run out) ≤ sumL out + run.length + zs.length
  | [],run,out => by
    unfold runsG
    split
    · simp_all
    · simp [sumL_app,sumL]
  | z :: zs,run,out => by
    unfold runsG
    split
    · have := sum_runs zs (run ++ [z]) out
      simp at this ⊢
      omega
    · split
      · have := sum_runs zs [] out
        simp_all
        omega
      · have := sum_runs zs [] (out ++ [run])
        simp [sumL_app,sumL] at this ⊢
        omega
def trisF (t : Int) (zs : List Int) : List T3 := trisL t (runsF zs)
theorem tris_ok (t : Int) (f : Fl) (zs : List Int) (hz : zs.length ≤ 1048576) (h : Heap) : doCall E (callR E) 13 [.int .i64 t,.vs f (ints zs)] h = some (.vs .any (encT (trisF t zs)),h) := by
  have h1 := runsF_len zs
  have h2 : ∀ i : Nat,i < (runsF zs).length → (rAt (runsF zs) i).length ≤ 1048576 := fun i hi => Nat.le_trans (runsF_each zs i hi) hz
  have h3 := sum_runs zs [] []
  simp [sumL] at h3
  refine call_pure (pf := p13) rfl rfl rfl rfl (by simp [PV.lowL,PV.low]) (by simp [PV.low,PV.lowL]) ?_ h
  show kQ E _ (endQ [⟨4,none⟩] _) .norm { lvl := 0,tmps := mk 39 [(0,.int .i64 t),(1,.vs f (ints zs))],heap := [[none,none,none]],defers := [] }
  repeat' first | ((with_reducible first | refine cS ?_ ?_ | refine oS ?_ ?_ | refine dS ?_ ?_) <;> intro _) | ((with_reducible refine kk ?_ ?_); · rfl) | (simp -implicitDefEqProofs (disch := first | omega | assumption) only [push_cast,simprocAttr,eqTop,eqShL,eqSh,K_seq,ints_len,runs_ok,encRs_len]) | ((with_reducible first | refine cB ?_ ?_ | refine oB ?_ ?_ | refine dB ?_ ?_) <;> intro _)
  refine tl_out (t := t) (L := runsF zs) (fin := trisF t zs) (by omega) h2 ?_ (runsF zs) [] [] 1 none _ rfl (by simp [runsF]; omega) rfl (by simp [look,look_keepL]) (by simp [look,look_keepL]) (by simp [look,look_keepL]) (by simp [look,look_keepL]) (by simp [look])
  intro l g1 ob h5
  repeat' first | ((with_reducible first | refine cS ?_ ?_ | refine oS ?_ ?_ | refine dS ?_ ?_) <;> intro _) | ((with_reducible refine kk ?_ ?_); · rfl) | (simp -implicitDefEqProofs (disch := first | omega | assumption) only [push_cast,simprocAttr,eqTop,eqShL,eqSh,K_seq,h5,encT_len,encT_take]) | ((with_reducible first | refine cB ?_ ?_ | refine oB ?_ ?_ | refine dB ?_ ?_) <;> intro _)
theorem rtl_in {t : Int} {L : List (List Int)} {k : Nat} {r : List Int} (hk : k < L.length) (hget : rAt L k = r) (hr : (r.length : Int) ≤ 1048576) {ks : List KI} {Q : PEx → Fr → Prop} {fin : List T3}
    (hpost : ∀ l g1 ob,look l 0 = .int .i64 t → look l 5 = .sl (0,0) g1 0 fin.length → look l 6 = .vs .any (encRs L) → look l 7 = .int .i64 k → kQ E ks Q .norm { lvl := 0,tmps := mk 45 l,heap := [[some (.mem (encT fin) g1 true 3),ob,none]],defers := [] }) :
    ∀ (m i : Nat) (out : List T3) (g1 : Nat) (ob : Option Ob) (l : List (Nat × PV)),(i : Int) + m = countF t r.length → out.length + m ≤ 1048576 → out ++ trisR t r i m = fin →
      look l 0 = .int .i64 t → look l 5 = .sl (0,0) g1 0 out.length → look l 6 = .vs .any (encRs L) → look l 7 = .int .i64 k → look l 8 = .int .i64 i →
      kQ E (.code p14l1 :: .blk 2 :: ks) Q .norm { lvl := 0,tmps := mk 45 l,heap := [[some (.mem (encT out) g1 true 3),ob,none]],defers := [] } := by
  intro m
  induction m with
  | zero =>
    intro i out g1 ob l hi hb hf h0 h5 h6 h7 h8
    refine loopK' (c := p14l1) rfl ?_
    repeat' first | ((with_reducible first | refine cS ?_ ?_ | refine oS ?_ ?_ | refine dS ?_ ?_) <;> intro _) | ((with_reducible refine kk ?_ ?_); · rfl) | (simp -implicitDefEqProofs (disch := first | omega | assumption) only [push_cast,simprocAttr,eqTop,eqShL,eqSh,K_seq,h0,h5,h6,h7,h8,encRs_len,encRs_get,hget,ints_len,rcount_ok]) | ((with_reducible first | refine cB ?_ ?_ | refine oB ?_ ?_ | refine dB ?_ ?_) <;> intro _)
    have : fin = out := by rw [← hf]; simp [trisR]
    subst this
    exact hpost _ _ _ (by simp [look,look_keepL,h0]) (by simp [look,look_keepL,h5]) (by simp [look,look_keepL,h6]) (by simp [look,look_keepL,h7])
  | succ m ih =>
    intro i out g1 ob l hi hb hf h0 h5 h6 h7 h8
    have hle := count_le t r.length
    refine loopK' (c := p14l1) rfl ?_
    repeat' first | ((with_reducible first | refine cS ?_ ?_ | refine oS ?_ ?_ | refine dS ?_ ?_) <;> intro _) | ((with_reducible refine kk ?_ ?_); · rfl) | (simp -implicitDefEqProofs (disch := first | omega | assumption) only [push_cast,simprocAttr,eqTop,eqShL,eqSh,K_seq,h0,h5,h6,h7,h8,encRs_len,encRs_get,hget,ints_len,rcount_ok,rtri_ok',encT_len,encT_take,encT_app]) | ((with_reducible first | refine cB ?_ ?_ | refine oB ?_ ?_ | refine dB ?_ ?_) <;> intro _)
    exact ih (i + 1) (out ++ [triT t r i]) _ _ _ (by omega) (by simp; omega) (by rw [← hf]; simp [trisR]) (by simp [look,look_keepL,h0]) (by simp [look,look_keepL]) (by simp [look,look_keepL,h6]) (by simp [look,look_keepL,h7]) (by simp [look])
theorem rtl_out {t : Int} {ks : List KI} {Q : PEx → Fr → Prop} {fin : List T3} {L : List (List Int)} (hL : L.length ≤ 1048576) (hE : ∀ i : Nat,i < L.length → (rAt L i).length ≤ 1048576)
    (hpost : ∀ l g1 ob,look l 5 = .sl (0,0) g1 0 fin.length → kQ E ks Q .norm { lvl := 0,tmps := mk 45 l,heap := [[some (.mem (encT fin) g1 true 3),ob,none]],defers := [] }) :
    ∀ (rest pre : List (List Int)) (out : List T3) (g1 : Nat) (ob : Option Ob) (l : List (Nat × PV)),L = pre ++ rest → out.length + sumL rest ≤ 1048576 → out ++ trisL t rest = fin →
      look l 0 = .int .i64 t → look l 5 = .sl (0,0) g1 0 out.length → look l 6 = .vs .any (encRs L) → look l 7 = .int .i64 pre.length →
      kQ E (.code p14l0 :: .blk 0 :: ks) Q .norm { lvl := 0,tmps := mk 45 l,heap := [[some (.mem (encT out) g1 true 3),ob,none]],defers := [] } := by
  intro rest
  induction rest with
  | nil =>
    intro pre out g1 ob l hp hb hf h0 h5 h6 h7
    have hlen : L.length = pre.length := by rw [hp]; simp
    refine loopK' (c := p14l0) rfl ?_
    repeat' first | ((with_reducible first | refine cS ?_ ?_ | refine oS ?_ ?_ | refine dS ?_ ?_) <;> intro _) | ((with_reducible refine kk ?_ ?_); · rfl) | (simp -implicitDefEqProofs (disch := first | omega | assumption) only [push_cast,simprocAttr,eqTop,eqShL,eqSh,K_seq,h0,h5,h6,h7,encRs_len]) | ((with_reducible first | refine cB ?_ ?_ | refine oB ?_ ?_ | refine dB ?_ ?_) <;> intro _)
    have : fin = out := by rw [← hf]; simp [trisL]
    subst this
    exact hpost _ _ _ (by simp [look,look_keepL,h5])
  | cons r rest ih =>
    intro pre out g1 ob l hp hb hf h0 h5 h6 h7
    have hlen : L.length = pre.length + rest.length + 1 := by rw [hp]; simp; omega
    have hget : rAt L pre.length = r := by rw [hp]; simp [rAt]
    have hr : r.length ≤ 1048576 := by have := hE pre.length (by omega); rwa [hget] at this
    have hle := count_le t r.length
    have hcn := countN (t := t) (n := r.length)
    simp only [sumL] at hb
    refine loopK' (c := p14l0) rfl ?_
    repeat' first | ((with_reducible first | refine cS ?_ ?_ | refine oS ?_ ?_ | refine dS ?_ ?_) <;> intro _) | ((with_reducible refine kk ?_ ?_); · rfl) | (simp -implicitDefEqProofs (disch := first | omega | assumption) only [push_cast,simprocAttr,eqTop,eqShL,eqSh,K_seq,h0,h5,h6,h7,encRs_len]) | ((with_reducible first | refine cB ?_ ?_ | refine oB ?_ ?_ | refine dB ?_ ?_) <;> intro _)
    refine rtl_in (t := t) (L := L) (k := pre.length) (r := r) (by omega) hget (by omega) (fin := out ++ trisR t r 0 (countF t r.length).toNat) ?_ (countF t r.length).toNat 0 out _ _ _ (by simp [hcn]) (by omega) rfl
      (by simp [look,look_keepL,h0]) (by simp [look,look_keepL,h5]) (by simp [look,look_keepL,h6]) (by simp [look,look_keepL,h7]) (by simp [look])
    intro l' g1' ob' h0' h5' h6' h7'
    repeat' first | ((with_reducible first | refine cS ?_ ?_ | refine oS ?_ ?_ | refine dS ?_ ?_) <;> intro _) | ((with_reducible refine kk ?_ ?_); · rfl) | (simp -implicitDefEqProofs (disch := first | omega | assumption) only [push_cast,simprocAttr,eqTop,eqShL,eqSh,K_seq,h0',h5',h6',h7']) | ((with_reducible first | refine cB ?_ ?_ | refine oB ?_ ?_ | refine dB ?_ ?_) <;> intro _)
    exact ih (pre ++ [r]) _ _ _ _ (by simp [hp]) (by simp [trisR_len]; omega) (by rw [← hf]; simp [trisL]) (by simp [look,look_keepL,h0']) (by simp [look,look_keepL,h5']) (by simp [look,look_keepL,h6']) (by simp [look])
theorem rtris_ok (t : Int) (f : Fl) (zs : List Int) (hz : zs.length ≤ 1048576) (h : Heap) : doCall E (callR E) 14 [.int .i64 t,.vs f (ints zs)] h = some (.vs .any (encT (trisF t zs)),h) := by
  have h1 := runsF_len zs
  have h2 : ∀ i : Nat,i < (runsF zs).length → (rAt (runsF zs) i).length ≤ 1048576 := fun i hi => Nat.le_trans (runsF_each zs i hi) hz
  have h3 := sum_runs zs [] []
  simp [sumL] at h3
  refine call_pure (pf := p14) rfl rfl rfl rfl (by simp [PV.lowL,PV.low]) (by simp [PV.low,PV.lowL]) ?_ h
  show kQ E _ (endQ [⟨4,none⟩] _) .norm { lvl := 0,tmps := mk 45 [(0,.int .i64 t),(1,.vs f (ints zs))],heap := [[none,none,none]],defers := [] }
  repeat' first | ((with_reducible first | refine cS ?_ ?_ | refine oS ?_ ?_ | refine dS ?_ ?_) <;> intro _) | ((with_reducible refine kk ?_ ?_); · rfl) | (simp -implicitDefEqProofs (disch := first | omega | assumption) only [push_cast,simprocAttr,eqTop,eqShL,eqSh,K_seq,ints_len,rruns_ok,encRs_len]) | ((with_reducible first | refine cB ?_ ?_ | refine oB ?_ ?_ | refine dB ?_ ?_) <;> intro _)
  refine rtl_out (t := t) (L := runsF zs) (fin := trisF t zs) (by omega) h2 ?_ (runsF zs) [] [] 1 none _ rfl (by simp [runsF]; omega) rfl (by simp [look,look_keepL]) (by simp [look,look_keepL]) (by simp [look,look_keepL]) (by simp [look])
  intro l g1 ob h5
  repeat' first | ((with_reducible first | refine cS ?_ ?_ | refine oS ?_ ?_ | refine dS ?_ ?_) <;> intro _) | ((with_reducible refine kk ?_ ?_); · rfl) | (simp -implicitDefEqProofs (disch := first | omega | assumption) only [push_cast,simprocAttr,eqTop,eqShL,eqSh,K_seq,h5,encT_len,encT_take]) | ((with_reducible first | refine cB ?_ ?_ | refine oB ?_ ?_ | refine dB ?_ ?_) <;> intro _)
def tAt (l : List T3) (j : Int) : T3 := l.getD j.toNat (0,0,0)
theorem encT_get {l : List T3} {j : Int} (h0 : 0 ≤ j) (h1 : j < l.length) : (encT l)[j.toNat]? = some (tri (tAt l j).1 (tAt l j).2.1 (tAt l j).2.2) := by
  have : j.toNat < l.length := by omega
  simp [encT,tAt,List.getElem?_eq_getElem this]
theorem same_loop {l : List T3} {f1 f2 : Fl} (hl : l.length ≤ 1048576) {ks : List KI} {Q : PEx → Fr → Prop}
    (hpost : ∀ t,kQ E ks Q .norm { lvl := 0,tmps := mk 26 t,heap := [[]],defers := [] }) :
    ∀ (m i : Nat) (t : List (Nat × PV)),i + m = l.length → look t 0 = .vs f1 (encT l) → look t 1 = .vs f2 (encT l) → look t 5 = .int .i64 i →
      kQ E (.code p12l0 :: .blk 0 :: ks) Q .norm { lvl := 0,tmps := mk 26 t,heap := [[]],defers := [] } := by
  intro m
  induction m with
  | zero =>
    intro i t hk h0 h1 h5
    refine loopK' (c := p12l0) rfl ?_
    repeat' first | ((with_reducible first | refine cS ?_ ?_ | refine oS ?_ ?_ | refine dS ?_ ?_) <;> intro _) | ((with_reducible refine kk ?_ ?_); · rfl) | (simp -implicitDefEqProofs (disch := first | omega | assumption) only [push_cast,simprocAttr,eqTop,eqShL,eqSh,K_seq,h0,h1,h5,encT_len]) | ((with_reducible first | refine cB ?_ ?_ | refine oB ?_ ?_ | refine dB ?_ ?_) <;> intro _)
    exact hpost _
  | succ m ih =>
    intro i t hk h0 h1 h5
    refine loopK' (c := p12l0) rfl ?_
    repeat' first | ((with_reducible first | refine cS ?_ ?_ | refine oS ?_ ?_ | refine dS ?_ ?_) <;> intro _) | ((with_reducible refine kk ?_ ?_); · rfl) | (simp -implicitDefEqProofs (disch := first | omega | assumption) only [push_cast,simprocAttr,eqTop,eqShL,eqSh,K_seq,h0,h1,h5,encT_len,encT_get]) | ((with_reducible first | refine cB ?_ ?_ | refine oB ?_ ?_ | refine dB ?_ ?_) <;> intro _)
    exact ih (i + 1) _ (by omega) (by simp [look,look_keepL,h0]) (by simp [look,look_keepL,h1]) (by simp [look])
theorem same_ok (f1 f2 : Fl) (l : List T3) (hl : l.length ≤ 1048576) (h : Heap) : doCall E (callR E) 12 [.vs f1 (encT l),.vs f2 (encT l)] h = some (.bool true,h) := by
  refine call_pure (pf := p12) rfl rfl rfl rfl (by simp [PV.lowL,PV.low]) (by simp [PV.low,PV.lowL]) ?_ h
  show kQ E _ (endQ [⟨4,none⟩] _) .norm { lvl := 0,tmps := mk 26 [(0,.vs f1 (encT l)),(1,.vs f2 (encT l))],heap := [[]],defers := [] }
  repeat' first | ((with_reducible first | refine cS ?_ ?_ | refine oS ?_ ?_ | refine dS ?_ ?_) <;> intro _) | ((with_reducible refine kk ?_ ?_); · rfl) | (simp -implicitDefEqProofs (disch := first | omega | assumption) only [push_cast,simprocAttr,eqTop,eqShL,eqSh,K_seq,encT_len]) | ((with_reducible first | refine cB ?_ ?_ | refine oB ?_ ?_ | refine dB ?_ ?_) <;> intro _)
  refine same_loop (l := l) (f1 := f1) (f2 := f2) hl ?_ l.length 0 _ (by simp) (by simp [look,look_keepL]) (by simp [look,look_keepL]) (by simp [look])
  intro t
  repeat' first | ((with_reducible first | refine cS ?_ ?_ | refine oS ?_ ?_ | refine dS ?_ ?_) <;> intro _) | ((with_reducible refine kk ?_ ?_); · rfl) | (simp -implicitDefEqProofs (disch := first | omega | assumption) only [push_cast,simprocAttr,eqTop,eqShL,eqSh,K_seq]) | ((with_reducible first | refine cB ?_ ?_ | refine oB ?_ ?_ | refine dB ?_ ?_) <;> intro _)
theorem trisL_len (t : Int) : ∀ (L : List (List Int)),(trisL t L).length ≤ sumL L
  | [] => by simp [trisL,sumL]
  | r :: l => by
    have h1 := trisL_len t l
    have h2 := count_le t r.length
    have h3 := countN (t := t) (n := r.length)
    simp [trisL,sumL,trisR_len]
    omega
theorem law3 (t i : Int) (f : Fl) (zs : List Int) (hz : zs.length ≤ 1048576) (hi : i ≤ 9223372036854775807) (h : Heap) : doCall E (callR E) 3 [.int .i64 t,.vs f (ints zs),.int .i64 i] h = some (.bool true,h) := by
  have h3 := sum_runs zs [] []
  simp [sumL] at h3
  have h4 := trisL_len t (runsF zs)
  have hs := same_ok .any .any (trisF t zs) (by unfold trisF; unfold runsF at h4 ⊢; omega)
  by_cases hin : 0 ≤ i ∧ i < countF t zs.length
  · have e1 := triF_in hin.1 hin.2
    refine call_pure (pf := p3) rfl rfl rfl rfl (by simp [PV.lowL,PV.low]) (by simp [PV.low,PV.lowL]) ?_ h
    show kQ E _ (endQ [⟨6,none⟩] _) .norm { lvl := 0,tmps := mk 63 [(0,.int .i64 t),(1,.vs f (ints zs)),(2,.int .i64 i)],heap := [[none,none]],defers := [] }
    repeat' first | ((with_reducible first | refine cS ?_ ?_ | refine oS ?_ ?_ | refine dS ?_ ?_) <;> intro _) | ((with_reducible refine kk ?_ ?_); · rfl) | (simp -implicitDefEqProofs (disch := first | omega | assumption) only [push_cast,simprocAttr,eqTop,eqShL,eqSh,K_seq,ints_len,tri_ok,rtri_ok,e1,tris_ok,rtris_ok,hs,count_ok,rcount_ok,valid_ok,rvalid_ok,ex_ok]) | ((with_reducible first | refine cB ?_ ?_ | refine oB ?_ ?_ | refine dB ?_ ?_) <;> intro _)
  · have e1 := triF_out (t := t) (i := i) (zs := zs) (by omega)
    refine call_pure (pf := p3) rfl rfl rfl rfl (by simp [PV.lowL,PV.low]) (by simp [PV.low,PV.lowL]) ?_ h
    show kQ E _ (endQ [⟨6,none⟩] _) .norm { lvl := 0,tmps := mk 63 [(0,.int .i64 t),(1,.vs f (ints zs)),(2,.int .i64 i)],heap := [[none,none]],defers := [] }
    repeat' first | ((with_reducible first | refine cS ?_ ?_ | refine oS ?_ ?_ | refine dS ?_ ?_) <;> intro _) | ((with_reducible refine kk ?_ ?_); · rfl) | (simp -implicitDefEqProofs (disch := first | omega | assumption) only [push_cast,simprocAttr,eqTop,eqShL,eqSh,K_seq,ints_len,tri_ok,rtri_ok,e1,tris_ok,rtris_ok,hs,count_ok,rcount_ok,valid_ok,rvalid_ok,ex_ok]) | ((with_reducible first | refine cB ?_ ?_ | refine oB ?_ ?_ | refine dB ?_ ?_) <;> intro _)
end Go.VI.S
