/- Chapter 16: what Edges computes, walked: the triangles one after the other, then the map. -/
import Derived.Test.YteodaifeknghaaaF16i
import Derived.Test.YteodaifeknghaaaVi48
set_option maxRecDepth 100000
set_option linter.unusedSimpArgs false
set_option linter.unusedVariables false
namespace Go.VI.S0
open Go.VI Go.VI.S
abbrev T3 := Int × Int × Int
def encT (l : List T3) : List PV := l.map fun p => .agg [.int .i64 p.1,.int .i64 p.2.1,.int .i64 p.2.2]
theorem encT_len {l : List T3} : (encT l).length = l.length := by simp [encT]
theorem encT_low {l : List T3} {L : Nat} : PV.lowL L (encT l) = true := lowL_map _ (fun _ => by simp [PV.low,PV.lowL]) _
theorem encT_at {l pre r : List T3} {p : T3} (h : l = pre ++ p :: r) : (encT l)[pre.length]? = some (.agg [.int .i64 p.1,.int .i64 p.2.1,.int .i64 p.2.2]) := by
  subst h
  simp [encT]
theorem step_bnd {i a b : Int} {s : As × As} {B : Int} (hB0 : 0 ≤ B) (hB : ∀ e v,getA s.1 e = some v → 0 ≤ v ∧ v ≤ B) : ∀ e v,getA (stepE i a b s).1 e = some v → 0 ≤ v ∧ v ≤ B + 1 := by
  unfold stepE
  split
  · intro e v h
    have := hB e v h
    omega
  · refine bnd_set hB ?_ ?_ (by omega)
    · cases hc : getA s.1 (eOf a b) with
      | none => simp
      | some v => have := hB _ v hc; simp; omega
    · cases hc : getA s.1 (eOf a b) with
      | none => simp; omega
      | some v => have := hB _ v hc; simp; omega
theorem round_bnd {i : Int} {t : T3} : ∀ (m k : Nat) (s : As × As) (B : Int),0 ≤ B → (∀ e v,getA s.1 e = some v → 0 ≤ v ∧ v ≤ B) → ∀ e v,getA (roundE i t m k s).1 e = some v → 0 ≤ v ∧ v ≤ B + m
  | 0,k,s,B,h0,hB => by simpa [roundE] using hB
  | m + 1,k,s,B,h0,hB => by
    have := round_bnd (i := i) (t := t) m (k + 1) _ (B + 1) (by omega) (step_bnd (i := i) (a := sel t.1 t.2.1 t.2.2 k) (b := sel t.1 t.2.1 t.2.2 ((k + 1) % 3)) h0 hB)
    intro e v h
    have := this e v h
    omega
theorem out_loop {ks : List KI} {Q : PEx → Fr → Prop} {f : Fl} {ts : List T3} (hts : ts.length ≤ 1048576) {fin : As × As}
    (hpost : ∀ l c1 c2 ob3 ob4,c1 = fin.1.length → c2 = fin.2.length → look l 3 = .map (0,0) 1 → look l 5 = .sl (0,2) 1 0 0 →
      kQ E ks Q .norm { lvl := 0,tmps := mk 86 l,heap := [[some (.map (encM fin.1) c1 1),some (.map (encM fin.2) c2 1),some (.mem [] 1 true 2),ob3,ob4,none,none,none]],defers := [] }) :
    ∀ (rest pre : List T3) (s : As × As) (c1 c2 : Nat) (ob3 ob4 : Option Ob) (l : List (Nat × PV)),ts = pre ++ rest → foldE rest pre.length s = fin → (∀ e v,getA s.1 e = some v → 0 ≤ v ∧ v ≤ 3 * pre.length) → c1 = s.1.length → c2 = s.2.length →
      look l 3 = .map (0,0) 1 → look l 4 = .map (0,1) 1 → look l 5 = .sl (0,2) 1 0 0 → look l 18 = .vs f (encT ts) → look l 19 = .int .i64 ts.length → look l 20 = .int .i64 pre.length →
      kQ E (.code p26l0 :: .blk 0 :: ks) Q .norm { lvl := 0,tmps := mk 86 l,heap := [[some (.map (encM s.1) c1 1),some (.map (encM s.2) c2 1),some (.mem [] 1 true 2),ob3,ob4,none,none,none]],defers := [] } := by
  intro rest
  induction rest with
  | nil =>
    intro pre s c1 c2 ob3 ob4 l hl hf hB e1 e2 h3 h4 h5 h18 h19 h20
    have hs : s = fin := hf
    subst hs
    have hlen : ts.length = pre.length := by rw [hl]; simp
    refine loopK' (c := p26l0) rfl ?_
    repeat' first | ((with_reducible first | refine cS ?_ ?_ | refine oS ?_ ?_ | refine dS ?_ ?_) <;> intro _) | ((with_reducible refine kk ?_ ?_); · rfl) | (simp -implicitDefEqProofs (disch := first | omega | assumption) only [push_cast,simprocAttr,eqTop,eqShL,eqSh,K_seq,h19,h20,hlen]) | ((with_reducible first | refine cB ?_ ?_ | refine oB ?_ ?_ | refine dB ?_ ?_) <;> intro _)
    exact hpost _ _ _ _ _ e1 e2 (by simp [look,look_keepL,h3]) (by simp [look,look_keepL,h5])
  | cons p rest ih =>
    intro pre s c1 c2 ob3 ob4 l hl hf hB e1 e2 h3 h4 h5 h18 h19 h20
    have hlen : ts.length = pre.length + rest.length + 1 := by rw [hl]; simp; omega
    have hg := encT_at hl
    obtain ⟨a,b,c⟩ := p
    refine loopK' (c := p26l0) rfl ?_
    repeat' first | ((with_reducible first | refine cS ?_ ?_ | refine oS ?_ ?_ | refine dS ?_ ?_) <;> intro _) | ((with_reducible refine kk ?_ ?_); · rfl) | (simp -implicitDefEqProofs (disch := first | omega | assumption) only [push_cast,simprocAttr,eqTop,eqShL,eqSh,K_seq,h3,h4,h5,h18,h19,h20,hlen,Int.toNat_natCast,hg]) | ((with_reducible first | refine cB ?_ ?_ | refine oB ?_ ?_ | refine dB ?_ ?_) <;> intro _)
    refine in_loop (i := pre.length) (by omega) (a := a) (b := b) (c := c) (v18 := .vs f (encT ts)) (v19 := .int .i64 ts.length) (fin := roundE pre.length (a,b,c) 3 0 s) ?_ 3 0 s c1 c2 ob4 _ rfl rfl (by simpa using hB) e1 e2 (by simp [look,look_keepL,h3]) (by simp [look,look_keepL,h4]) (by simp [look,look_keepL,h5]) (by simp [look,look_keepL]) (by simp [look,look_keepL]) (by simp [look,look_keepL,h18]) (by simp [look,look_keepL,h19]) (by simp [look,look_keepL,h20]) (by simp [look])
    intro l' c1' c2' ob4' e1' e2' h3' h4' h5' h18' h19' h20'
    repeat' first | ((with_reducible first | refine cS ?_ ?_ | refine oS ?_ ?_ | refine dS ?_ ?_) <;> intro _) | ((with_reducible refine kk ?_ ?_); · rfl) | (simp -implicitDefEqProofs (disch := first | omega | assumption) only [push_cast,simprocAttr,eqTop,eqShL,eqSh,K_seq,h3',h4',h5',h18',h19',h20']) | ((with_reducible first | refine cB ?_ ?_ | refine oB ?_ ?_ | refine dB ?_ ?_) <;> intro _)
    refine ih (pre ++ [(a,b,c)]) (roundE pre.length (a,b,c) 3 0 s) _ _ _ _ _ (by simp [hl]) (by rw [← hf]; simp [foldE]) ?_ e1' e2' (by simp [look,look_keepL,h3']) (by simp [look,look_keepL,h4']) (by simp [look,look_keepL,h5']) (by simp [look,look_keepL,h18']) (by simp [look,look_keepL,h19']) (by simp [look])
    intro e v h
    have := round_bnd (i := pre.length) (t := (a,b,c)) 3 0 s (3 * pre.length) (by omega) hB e v h
    simp
    omega
end Go.VI.S0
