/- Chapter 16: the law AssembleStripOrientation, evaluated. -/
import Derived.Test.YteodaifeknghaaaF16t
set_option maxRecDepth 100000
set_option linter.unusedSimpArgs false
set_option linter.unusedVariables false
namespace Go.VI.S
open Go.VI
open Go.VI.S0 (T2 edgesF encE encE_len)
theorem asc_ints {f : Int} {i : Nat} : ints (asc2 f i) ++ [.int .i64 (f + i)] = ints (asc2 f (i + 1)) := by rw [← asc_app]; simp [ints]
theorem asc_tk {f : Int} {i : Nat} : (ints (asc2 f i)).take i = ints (asc2 f i) := List.take_of_length_le (by simp [ints,asc_len])
theorem tmod40 {n : Nat} : Int.tmod (n : Int) 40 = ((n % 40 : Nat) : Int) := rfl
theorem sg_loop {n f : Nat} (hn : n < 256) (hf : f < 65536) {ks : List KI} {Q : PEx → Fr → Prop}
    (hpost : ∀ l g ob,look l 1 = .int .u16 f → look l 5 = .sl (0,0) g 0 (n % 40) → kQ E ks Q .norm { lvl := 0,tmps := mk 103 l,heap := [[some (.mem (ints (asc2 f (n % 40))) g true 1),ob]],defers := [] }) :
    ∀ (m i g : Nat) (ob : Option Ob) (l : List (Nat × PV)),i + m = n % 40 → look l 0 = .int .u8 n → look l 1 = .int .u16 f → look l 5 = .sl (0,0) g 0 i → look l 6 = .int .i64 i →
      kQ E (.code p9l0 :: .blk 0 :: ks) Q .norm { lvl := 0,tmps := mk 103 l,heap := [[some (.mem (ints (asc2 f i)) g true 1),ob]],defers := [] } := by
  have hm : n % 40 < 40 := Nat.mod_lt _ (by decide)
  intro m
  induction m with
  | zero =>
    intro i g ob l hi h0 h1 h5 h6
    have hi : n % 40 = i := by omega
    refine loopK' (c := p9l0) rfl ?_
    repeat' first | ((with_reducible first | refine cS ?_ ?_ | refine oS ?_ ?_ | refine dS ?_ ?_) <;> intro _) | ((with_reducible refine kk ?_ ?_); · rfl) | (simp -implicitDefEqProofs (disch := first | omega | assumption) only [push_cast,simprocAttr,eqTop,eqShL,eqSh,K_seq,h0,h1,h5,h6,tmod40,hi]) | ((with_reducible first | refine cB ?_ ?_ | refine oB ?_ ?_ | refine dB ?_ ?_) <;> intro _)
    rw [← hi]
    exact hpost _ _ _ (by simp [look,look_keepL,h1]) (by simp [look,look_keepL,h5,hi])
  | succ m ih =>
    intro i g ob l hi h0 h1 h5 h6
    have hlt : (i : Int) < ((n % 40 : Nat) : Int) := by omega
    refine loopK' (c := p9l0) rfl ?_
    repeat' first | ((with_reducible first | refine cS ?_ ?_ | refine oS ?_ ?_ | refine dS ?_ ?_) <;> intro _) | ((with_reducible refine kk ?_ ?_); · rfl) | (simp -implicitDefEqProofs (disch := first | omega | assumption) only [push_cast,simprocAttr,eqTop,eqShL,eqSh,K_seq,h0,h1,h5,h6,tmod40,hlt,ints_len,asc_len,asc_tk,asc_ints]) | ((with_reducible first | refine cB ?_ ?_ | refine oB ?_ ?_ | refine dB ?_ ?_) <;> intro _)
    exact ih (i + 1) _ _ _ (by omega) (by simp [look,look_keepL,h0]) (by simp [look,look_keepL,h1]) (by simp [look,look_keepL]) (by simp [look])
set_option maxHeartbeats 2000000 in
theorem so_loop {o1 o2 : Option Ob} {f : Nat} {all : List T3} {k : Nat} (hall : all = stL f 0 k) (hf : f < 65536) (hk : k ≤ 40) {ks : List KI} {Q : PEx → Fr → Prop}
    (hpost : ∀ l,look l 7 = .vs .any (encT all) → kQ E ks Q .norm { lvl := 0,tmps := mk 103 l,heap := [[o1,o2]],defers := [] }) :
    ∀ (m i : Nat) (l : List (Nat × PV)),i + 1 + m = max k 1 → look l 1 = .int .u16 f → look l 7 = .vs .any (encT all) → look l 8 = .int .i64 i →
      kQ E (.code p9l1 :: .blk 2 :: ks) Q .norm { lvl := 0,tmps := mk 103 l,heap := [[o1,o2]],defers := [] } := by
  have hlen : all.length = k := by rw [hall,stL_len]
  intro m
  induction m with
  | zero =>
    intro i l hi h1 h7 h8
    have hge : ¬ ((i : Int) + 1 < (k : Int)) := by omega
    refine loopK' (c := p9l1) rfl ?_
    repeat' first | ((with_reducible first | refine cS ?_ ?_ | refine oS ?_ ?_ | refine dS ?_ ?_) <;> intro _) | ((with_reducible refine kk ?_ ?_); · rfl) | (simp -implicitDefEqProofs (disch := first | omega | assumption) only [push_cast,simprocAttr,eqTop,eqShL,eqSh,K_seq,h1,h7,h8,encT_len,hlen,hge]) | ((with_reducible first | refine cB ?_ ?_ | refine oB ?_ ?_ | refine dB ?_ ?_) <;> intro _)
    exact hpost _ (by simp [look,look_keepL,h7])
  | succ m ih =>
    intro i l hi h1 h7 h8
    have hlt : (i : Int) + 1 < (k : Int) := by omega
    have a0 : tAt all i = stT f i := by
      have := stL_at (f := f) (m := k) (i := 0) (j := i) (by omega)
      rw [← hall] at this
      simp [tAt,this]
    have a1 : tAt all ((i : Int) + 1) = stT f ((i : Int) + 1) := by
      have := stL_at (f := f) (m := k) (i := 0) (j := i + 1) (by omega)
      rw [← hall] at this
      have e : ((i : Int) + 1).toNat = i + 1 := by omega
      simp only [tAt,e,List.getD_eq_getElem?_getD,this]
      simp only [Nat.zero_add,Option.getD_some,Int.natCast_add,Int.natCast_one]
    have g0 := encT_get (l := all) (j := (i : Int)) (by omega) (by omega)
    have g1 := encT_get (l := all) (j := (i : Int) + 1) (by omega) (by omega)
    rw [a0] at g0
    rw [a1] at g1
    rcases dir_strip (f := f) (i := i) with ⟨d1,d2⟩ | ⟨d1,d2,d3⟩
    · refine loopK' (c := p9l1) rfl ?_
      repeat' first | ((with_reducible first | refine cS ?_ ?_ | refine oS ?_ ?_ | refine dS ?_ ?_) <;> intro _) | ((with_reducible refine kk ?_ ?_); · rfl) | (simp -implicitDefEqProofs (disch := first | omega | assumption) only [push_cast,simprocAttr,eqTop,eqShL,eqSh,K_seq,h1,h7,h8,encT_len,hlen,hlt,g0,g1,dir_ok,d1,d2]) | ((with_reducible first | refine cB ?_ ?_ | refine oB ?_ ?_ | refine dB ?_ ?_) <;> intro _)
      exact ih (i + 1) _ (by omega) (by simp [look,look_keepL,h1]) (by simp [look,look_keepL,h7]) (by simp [look])
    · refine loopK' (c := p9l1) rfl ?_
      repeat' first | ((with_reducible first | refine cS ?_ ?_ | refine oS ?_ ?_ | refine dS ?_ ?_) <;> intro _) | ((with_reducible refine kk ?_ ?_); · rfl) | (simp -implicitDefEqProofs (disch := first | omega | assumption) only [push_cast,simprocAttr,eqTop,eqShL,eqSh,K_seq,h1,h7,h8,encT_len,hlen,hlt,g0,g1,dir_ok,d1,d2,d3]) | ((with_reducible first | refine cB ?_ ?_ | refine oB ?_ ?_ | refine dB ?_ ?_) <;> intro _)
      exact ih (i + 1) _ (by omega) (by simp [look,look_keepL,h1]) (by simp [look,look_keepL,h7]) (by simp [look])
theorem edges_ok9 (f : Fl) (ts : List T3) (hts : ts.length ≤ 1048576) (h : Heap) : doCall E (callR E) 26 [.vs f (encT ts)] h = some (.vs .any (encE (edgesF ts)),h) := edges_ok f ts hts h
theorem law9 (n f : Nat) (hn : n < 256) (hf : f < 65536) (h : Heap) : doCall E (callR E) 9 [.int .u8 n,.int .u16 f] h = some (.bool true,h) := by
  have hm : n % 40 < 40 := Nat.mod_lt _ (by decide)
  have ht := tris_strip (f := (f : Int)) (by omega) (n % 40)
  have hl : (trisF 2 (asc2 f (n % 40))).length = n % 40 - 2 := by rw [ht,stL_len]
  have hz : (asc2 (f : Int) (n % 40)).length ≤ 1048576 := by rw [asc_len]; omega
  have hts : (stL (f : Int) 0 (n % 40 - 2)).length ≤ 1048576 := by rw [stL_len]; omega
  have hed := edges_strip (f := (f : Int)) (n % 40 - 2)
  refine call_pure (pf := p9) rfl rfl rfl rfl (by simp [PV.lowL,PV.low]) (by simp [PV.low,PV.lowL]) ?_ h
  show kQ E _ (endQ [⟨4,none⟩] _) .norm { lvl := 0,tmps := mk 103 [(0,.int .u8 n),(1,.int .u16 f)],heap := [[none,none]],defers := [] }
  repeat' first | ((with_reducible first | refine cS ?_ ?_ | refine oS ?_ ?_ | refine dS ?_ ?_) <;> intro _) | ((with_reducible refine kk ?_ ?_); · rfl) | (simp -implicitDefEqProofs (disch := first | omega | assumption) only [push_cast,simprocAttr,eqTop,eqShL,eqSh,K_seq]) | ((with_reducible first | refine cB ?_ ?_ | refine oB ?_ ?_ | refine dB ?_ ?_) <;> intro _)
  refine sg_loop hn hf ?_ (n % 40) 0 _ none _ (by omega) (by simp [look,look_keepL]) (by simp [look,look_keepL]) (by simp [look,look_keepL]) (by simp [look])
  intro l g ob h1 h5
  repeat' first | ((with_reducible first | refine cS ?_ ?_ | refine oS ?_ ?_ | refine dS ?_ ?_) <;> intro _) | ((with_reducible refine kk ?_ ?_); · rfl) | (simp -implicitDefEqProofs (disch := first | omega | assumption) only [push_cast,simprocAttr,eqTop,eqShL,eqSh,K_seq,h1,h5,asc_len,ints_len,asc_tk,tris_ok,ht,encT_len,stL_len]) | ((with_reducible first | refine cB ?_ ?_ | refine oB ?_ ?_ | refine dB ?_ ?_) <;> intro _)
  refine so_loop (f := f) (all := stL (f : Int) 0 (n % 40 - 2)) (k := n % 40 - 2) rfl hf (by omega) ?_ (max (n % 40 - 2) 1 - 1) 0 _ (by omega) (by simp [look,look_keepL,h1]) (by simp [look,look_keepL]) (by simp [look])
  intro l' h7
  repeat' first | ((with_reducible first | refine cS ?_ ?_ | refine oS ?_ ?_ | refine dS ?_ ?_) <;> intro _) | ((with_reducible refine kk ?_ ?_); · rfl) | (simp -implicitDefEqProofs (disch := first | omega | assumption) only [push_cast,simprocAttr,eqTop,eqShL,eqSh,K_seq,h7,encT_len,stL_len,edges_ok9,encE_len,hed,ex_ok]) | ((with_reducible first | refine cB ?_ ?_ | refine oB ?_ ?_ | refine dB ?_ ?_) <;> intro _)
theorem law9i (n f : Int) (h0 : 0 ≤ n) (h1 : n < 256) (h2 : 0 ≤ f) (h3 : f < 65536) (h : Heap) : doCall E (callR E) 9 [.int .u8 n,.int .u16 f] h = some (.bool true,h) := by
  obtain ⟨n,rfl⟩ := Int.eq_ofNat_of_zero_le h0
  obtain ⟨f,rfl⟩ := Int.eq_ofNat_of_zero_le h2
  exact law9 n f (by omega) (by omega) h
end Go.VI.S
