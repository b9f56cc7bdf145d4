/- The input of a call: what is read of an argument as VI's values; what is asked behind the call. -/
import Derived.Test.YteodaifeknghaaaVi32
import Derived.ChangeArms
import Derived.ChangeSame
import Derived.ChangeBears
import Derived.ReadAgain
import Derived.ChangeOld
import Derived.ChangeReads
import Derived.RowKit3
import Derived.DataReads
namespace Go.VI

/-- The types whose values VI speaks of. -/
def spoken : TypeDesc → Bool
  | .bool | .int _ | .string | .pointer _ | .slice _ | .struct _ | .array _ _ => true
  | _ => false

/-- Values of a type, as VI's cells. -/
inductive HasTy (P : Program) : TypeId → List PV → Prop
  | bool (t : TypeId) (b : Bool) (h : P.underlying t = some .bool) : HasTy P t [.bool b]
  | int (t : TypeId) (k : IntKind) (n : Int) (h : P.underlying t = some (.int k)) (hw : (Lit.int k n).wf = true) : HasTy P t [.int k n]
  | str (t : TypeId) (s : List UInt8) (h : P.underlying t = some .string) (hl : s.length ≤ maxLen) : HasTy P t [.str s]
  | nilp (t e : TypeId) (h : P.underlying t = some (.pointer e)) : HasTy P t [.nilp]
  | ip (t e : TypeId) (cs : List PV) (h : P.underlying t = some (.pointer e)) (hc : HasTy P e cs) : HasTy P t [.ip cs]
  | zero (t e : TypeId) (h : P.underlying t = some (.pointer e)) (h0 : P.cellsOf e = 0) : HasTy P t [.junk]
  | nils (t e : TypeId) (h : P.underlying t = some (.slice e)) : HasTy P t [.vs .nil []]
  | sl (t e : TypeId) (L : List PV) (h : P.underlying t = some (.slice e)) (hl : L.length ≤ maxLen) (hL : ∀ v ∈ L, HasTy P e v.cells) (hA : ∀ v ∈ L, ∃ d, P.underlying e = some d ∧ v.isAgg = isA d) : HasTy P t [.vs .nn L]
  | struct (t : TypeId) (fs : Array Field) (Ls : List (List PV)) (h : P.underlying t = some (.struct fs)) (hl : Ls.length = fs.size) (hf : ∀ (i : Nat) f L, fs[i]? = some f → Ls[i]? = some L → HasTy P f.type L) : HasTy P t Ls.flatten
  | array (t e : TypeId) (n : Nat) (Ls : List (List PV)) (h : P.underlying t = some (.array n e)) (hl : Ls.length = n) (hf : ∀ L ∈ Ls, HasTy P e L) : HasTy P t Ls.flatten
  | other (t : TypeId) (d : TypeDesc) (h : P.underlying t = some d) (hA : spoken d = false) : HasTy P t [.junk]

inductive F2 {α β : Type} (R : α → β → Prop) : List α → List β → Prop
  | nil : F2 R [] []
  | cons {a b l m} (h : R a b) (t : F2 R l m) : F2 R (a :: l) (b :: m)

theorem F2.append {α β : Type} {R : α → β → Prop} {l l' : List α} {m m' : List β} (h : F2 R l m) (h' : F2 R l' m') : F2 R (l ++ l') (m ++ m') := by
  induction h with
  | nil => exact h'
  | cons h _ ih => exact .cons h ih

theorem F2.len {α β : Type} {R : α → β → Prop} {l : List α} {m : List β} (h : F2 R l m) : l.length = m.length := by
  induction h with
  | nil => rfl
  | cons _ _ ih => simp [ih]

theorem F2.get {α β : Type} {R : α → β → Prop} {l : List α} {m : List β} (h : F2 R l m) : ∀ (i : Nat) a b, l[i]? = some a → m[i]? = some b → R a b := by
  induction h with
  | nil => intro i a b h; simp at h
  | cons h _ ih =>
    intro i a b ha hb
    cases i with
    | zero => simp at ha hb; exact ha ▸ hb ▸ h
    | succ i => exact ih i a b (by simpa using ha) (by simpa using hb)

theorem F2.one {α β : Type} {R : α → β → Prop} {a : α} {b : β} (h : R a b) : F2 R [a] [b] := .cons h .nil

section
variable {H : Type} {enc : TypeId × Value → H} {P : Program} {w : World} {spare : Nat → Bool} {held : Bool} {T : TypeId → Prop} {imm : Nat → Prop}

/-- A cell. -/
def CellR (imm : Nat → Prop) (w : World) (v : PV) (u : Value) : Prop := IRel imm w v u ∧ u.oneCell' = true

theorem cells?_get {base : Nat} {a : Addr} {n : Nat} {cs : List Value} (h : w.cells? base a n = some cs) : cs.length = n ∧ ∀ i, i < n → w.cell? (a.add i) = cs[i]? := by
  exact (World.cells?_some h).2

theorem add_block' (a : Addr) (n : Nat) : (a.add n).block = a.block := by unfold Addr.add; split <;> rfl
theorem add_off' (a : Addr) (n : Nat) : (a.add n).off = a.off + n := by
  unfold Addr.add
  split
  · subst_vars; rfl
  · rfl

theorem trod_cell {n : Nat} {t : TypeId} {cs : List Value} {x : DataW H × List MemPlace} (h : DataW.trod enc P w 0 spare held (n + 1) t cs = some x) (hA : ∀ fs, P.underlying t ≠ some (.struct fs)) (hB : ∀ n e, P.underlying t ≠ some (.array n e)) : ∃ v, cs = [v] ∧ v.oneCell' = true := by
  unfold DataW.trod at h
  split at h <;> first
    | exact ⟨_, rfl, rfl⟩
    | exact absurd ‹_› (hA _)
    | exact absurd ‹_› (hB _ _)
    | cases h

theorem structs_of {rd : TypeId → List Value → Prop} {Hs : TypeId → List PV → Prop} (hr : ∀ t cs, T t → rd t cs → ∃ L, Hs t L ∧ F2 (CellR imm w) L cs) :
    ∀ (fs : List Field) (o : Nat) (cs : List Value), (∀ f ∈ fs, T f.type) → (∀ (j : Nat) f, fs[j]? = some f → f.offset = o + ((fs.take j).map fun f => P.cellsOf f.type).sum) → (∀ f ∈ fs, rd f.type ((cs.drop f.offset).take (P.cellsOf f.type))) →
      ∃ Ls : List (List PV), Ls.length = fs.length ∧ (∀ (i : Nat) f L, fs[i]? = some f → Ls[i]? = some L → Hs f.type L) ∧ F2 (CellR imm w) Ls.flatten ((cs.drop o).take (fs.map fun f => P.cellsOf f.type).sum)
  | [], o, cs, _, _, _ => ⟨[], rfl, fun i f L h => by simp at h, by simpa using F2.nil⟩
  | f :: fs, o, cs, hT, hoff, hrd => by
    have h0 : f.offset = o := by simpa using hoff 0 f rfl
    obtain ⟨L, h1, h2⟩ := hr f.type _ (hT f (List.mem_cons_self ..)) (hrd f (List.mem_cons_self ..))
    rw [h0] at h2
    obtain ⟨Ls, h3, h4, h5⟩ := structs_of hr fs (o + P.cellsOf f.type) cs (fun g hg => hT g (List.mem_cons_of_mem _ hg)) (fun j g hg => by
      have := hoff (j + 1) g (by simpa using hg)
      simp only [List.take_succ_cons, List.map_cons, List.sum_cons] at this
      omega) (fun g hg => hrd g (List.mem_cons_of_mem _ hg))
    refine ⟨L :: Ls, by simp [h3], fun i g M hg hM => ?_, ?_⟩
    · cases i with
      | zero => simp at hg hM; exact hg ▸ hM ▸ h1
      | succ i => exact h4 i g M (by simpa using hg) (by simpa using hM)
    · simp only [List.flatten_cons, List.map_cons, List.sum_cons]
      rw [List.take_add, List.drop_drop]
      exact h2.append h5

theorem arrays_of {rd : List Value → Prop} {Hs : List PV → Prop} {s : Nat} (hr : ∀ cs, rd cs → ∃ L, Hs L ∧ F2 (CellR imm w) L cs) :
    ∀ (n o : Nat) (cs : List Value), (∀ i, i < n → rd ((cs.drop (o + i * s)).take s)) → ∃ Ls : List (List PV), Ls.length = n ∧ (∀ L ∈ Ls, Hs L) ∧ F2 (CellR imm w) Ls.flatten ((cs.drop o).take (n * s))
  | 0, o, cs, _ => ⟨[], rfl, fun L h => (by cases h), by simpa using F2.nil⟩
  | n + 1, o, cs, h => by
    obtain ⟨L, h1, h2⟩ := hr _ (h 0 (by omega))
    simp only [Nat.zero_mul, Nat.add_zero] at h2
    obtain ⟨Ls, h3, h4, h5⟩ := arrays_of hr n (o + s) cs (fun i hi => by
      have := h (i + 1) (by omega)
      rwa [show o + (i + 1) * s = o + s + i * s by rw [Nat.add_mul]; omega] at this)
    refine ⟨L :: Ls, by simp [h3], fun M hM => ?_, ?_⟩
    · rcases List.mem_cons.1 hM with rfl | hM
      · exact h1
      · exact h4 M hM
    · simp only [List.flatten_cons]
      rw [show (n + 1) * s = s + n * s by rw [Nat.add_mul]; omega, List.take_add, List.drop_drop]
      exact h2.append h5

/-- What is read of memory that will not be written any more. -/
theorem irel_of_trod (hall : ∀ b, spare b = true) (K : Kids P T) (hz : ∀ t e, T t → P.underlying t = some (.slice e) → 0 < P.cellsOf e) (hI : ∀ b, b < w.heap.size → imm b) :
    ∀ (n : Nat) (t : TypeId) (cs : List Value) (x : DataW H × List MemPlace), T t → DataW.trod enc P w 0 spare held n t cs = some x → ∃ L, HasTy P t L ∧ F2 (CellR imm w) L cs := by
  intro n
  induction n with
  | zero => intro t cs x _ h; simp [DataW.trod] at h
  | succ n ih =>
    intro t cs x hT h
    have h0 := h
    have cellAt : ∀ {a : Addr} {m : Nat} {cs' : List Value}, w.cells? 0 a m = some cs' → 0 < m → a = ⟨a.block, a.off, none⟩ ∧ cs'.length = m ∧ ∀ j u, cs'[j]? = some u → imm a.block ∧ w.cell? ⟨a.block, a.off + j, none⟩ = some u := by
      intro a m cs' hc hm
      obtain ⟨h1, h2⟩ := cells?_get hc
      have hb : a.block < w.heap.size := World.cells?_block hc hm
      have hsp : a.spot = none := by
        have h3 := h2 0 hm
        cases hs : a.spot with
        | none => rfl
        | some k =>
          have : w.cell? (a.add 0) = none := by
            unfold World.cell?
            have : (a.add 0).spot = some k := hs
            rw [this]
            split <;> rfl
          rw [this] at h3
          have : cs'[0]? = some cs'[0] := List.getElem?_eq_getElem (by omega)
          rw [this] at h3
          cases h3
      have ha : a = ⟨a.block, a.off, none⟩ := by
        cases a
        simp only at hsp
        subst hsp
        rfl
      refine ⟨ha, h1, fun j u hj => ⟨hI _ hb, ?_⟩⟩
      have hjm : j < m := h1 ▸ getElem?_some_lt hj
      have h3 := h2 j hjm
      rw [hj, ha, add_none] at h3
      exact h3
    have isAgg_len : ∀ {e : TypeId} {L : List PV}, HasTy P e L → (∃ d, P.underlying e = some d ∧ isA d = false) → ∃ v, L = [v] ∧ v.isAgg = false := by
      intro e L hL hd
      obtain ⟨d, hd, hA⟩ := hd
      cases hL with
      | other _ d' h hA' => exact ⟨_, rfl, rfl⟩
      | struct _ fs Ls h => rw [h] at hd; simp only [Option.some.injEq] at hd; subst hd; simp [isA] at hA
      | array _ e n Ls h => rw [h] at hd; simp only [Option.some.injEq] at hd; subst hd; simp [isA] at hA
      | _ => exact ⟨_, rfl, rfl⟩
    cases hu : P.underlying t with
    | none =>
      unfold DataW.trod at h
      rw [hu] at h
      simp at h
    | some d =>
      cases d with
      | bool =>
        obtain ⟨b, rfl, _⟩ := DataW.trod_bool hu h
        exact ⟨_, .bool t b hu, .one ⟨.bool b, rfl⟩⟩
      | int k =>
        obtain ⟨m, rfl, _, hw⟩ := DataW.trod_int hu h
        exact ⟨_, .int t k m hu hw, .one ⟨.int k m, rfl⟩⟩
      | string =>
        obtain ⟨s, rfl, _, hs⟩ := DataW.trod_string hu h
        refine ⟨_, .str t s.data.toList hu ?_, .one ⟨.str s, rfl⟩⟩
        simpa using hs
      | pointer e =>
        rcases DataW.trod_pointer hu h with ⟨rfl, _⟩ | ⟨a, cs', y, m, hm, rfl, _, hc, hy⟩
        · exact ⟨_, .nilp t e hu, .one ⟨.nilp, rfl⟩⟩
        · simp only [Nat.add_right_cancel_iff] at hm
          subst hm
          obtain ⟨L, hL, hF⟩ := ih e cs' y (K.pointer hT hu) hy
          rcases Nat.eq_zero_or_pos (P.cellsOf e) with h0 | hpos
          · exact ⟨_, .zero t e hu h0, .one ⟨.junk _, rfl⟩⟩
          obtain ⟨ha, h1, h2⟩ := cellAt hc hpos
          refine ⟨_, .ip t e L hu hL, .one ⟨?_, rfl⟩⟩
          rw [ha]
          exact .ip L a.block a.off (fun j => cs'.getD j undef) (fun j hj => by
            have hj' : j < cs'.length := hF.len ▸ hj
            have e1 : cs'[j]? = some cs'[j] := List.getElem?_eq_getElem hj'
            have e2 : L[j]? = some L[j] := List.getElem?_eq_getElem hj
            obtain ⟨h3, h4⟩ := h2 j _ e1
            rw [List.getD, e1]
            exact ⟨h3, h4, (hF.get j _ _ e2 e1).2⟩) (fun j cv hj => by
            have hj' : j < cs'.length := hF.len ▸ getElem?_some_lt hj
            have e1 : cs'[j]? = some cs'[j] := List.getElem?_eq_getElem hj'
            rw [List.getD, e1]
            exact (hF.get j _ _ hj e1).1)
      | slice e =>
        rcases DataW.trod_slice hu h with ⟨rfl, _⟩ | ⟨a, len, cap, elems, rest, m, hm, rfl, _, _, hlc, hcm, hlen, hel, hrest, _⟩
        · exact ⟨_, .nils t e hu, .one ⟨.vsNone _ (by simp), rfl⟩⟩
        · simp only [Nat.add_right_cancel_iff] at hm
          subst hm
          have hpos := hz t e hT hu
          obtain ⟨s, hs⟩ : ∃ s, s = P.cellsOf e := ⟨_, rfl⟩
          rw [← hs] at hel hpos
          rcases Nat.eq_zero_or_pos len with rfl | hl0
          · rcases Nat.eq_zero_or_pos cap with rfl | hc0
            · exact ⟨_, .sl t e [] hu (by simp) (fun v hv => by cases hv) (fun v hv => by cases hv), .one ⟨.vsE _ a (by simp), rfl⟩⟩
            · obtain ⟨hrl, hr⟩ := hrest (hall _)
              have h1 := hr 0 (by omega)
              obtain ⟨z, hz'⟩ : ∃ z, rest[0]? = some z := ⟨rest[0]'(by omega), List.getElem?_eq_getElem (by omega)⟩
              rw [hz', Option.bind_eq_some_iff] at h1
              obtain ⟨cs', hc, hy⟩ := h1
              rw [← hs] at hc
              have h2 := (cellAt hc hpos).1
              have hspt : a.spot = none := by
                have := congrArg Addr.spot h2
                simpa [Addr.add] using this
              have ha : a = ⟨a.block, a.off, none⟩ := by
                cases a
                simp only at hspt
                subst hspt
                rfl
              refine ⟨_, .sl t e [] hu (by simp) (fun v hv => by cases hv) (fun v hv => by cases hv), .one ⟨?_, rfl⟩⟩
              rw [ha]
              exact .vs .nn [] a.block a.off cap 0 (fun _ _ => undef) (by simp) (Nat.zero_le _) (by simp) (fun i e he => by simp at he) (fun i j hi => by simp at hi) (fun i j e cv he => by simp at he)
          have each : ∀ i, i < len → ∃ v : PV, HasTy P e v.cells ∧ (∃ d, P.underlying e = some d ∧ v.isAgg = isA d) ∧ v.cells.length = s ∧ ∀ j u, (∃ cv, v.cells[j]? = some cv ∧ True) → w.cell? ⟨a.block, a.off + i * s + j, none⟩ = some u → (imm a.block ∧ u.oneCell' = true ∧ ∀ cv, v.cells[j]? = some cv → IRel imm w cv u) := by
            intro i hi
            have h1 := hel i hi
            obtain ⟨z, hz'⟩ : ∃ z, elems[i]? = some z := ⟨elems[i]'(by omega), List.getElem?_eq_getElem (by omega)⟩
            rw [hz', Option.bind_eq_some_iff] at h1
            obtain ⟨cs', hc, hy⟩ := h1
            obtain ⟨L, hL, hF⟩ := ih e cs' z (K.slice hT hu) hy
            obtain ⟨_, h2, h3⟩ := cellAt hc hpos
            have hLl : L.length = s := by rw [hF.len, h2]
            have fin : ∀ v : PV, v.cells = L → ∀ j u, (∃ cv, v.cells[j]? = some cv ∧ True) → w.cell? ⟨a.block, a.off + i * s + j, none⟩ = some u → (imm a.block ∧ u.oneCell' = true ∧ ∀ cv, v.cells[j]? = some cv → IRel imm w cv u) := by
              intro v hv j u ⟨cv, hcv, _⟩ hu'
              rw [hv] at hcv ⊢
              have hj : j < cs'.length := by rw [h2, ← hLl]; exact getElem?_some_lt hcv
              have e1 : cs'[j]? = some cs'[j] := List.getElem?_eq_getElem hj
              obtain ⟨h4, h5⟩ := h3 j _ e1
              have h5' : w.cell? ⟨a.block, a.off + i * s + j, none⟩ = some cs'[j] := by rw [add_block', add_off'] at h5; exact h5
              rw [hu'] at h5'
              simp only [Option.some.injEq] at h5'
              subst h5'
              rw [add_block'] at h4
              exact ⟨h4, (hF.get j _ _ hcv e1).2, fun cv hcv => (hF.get j _ _ hcv e1).1⟩
            cases hue : P.underlying e with
            | none =>
              exfalso
              cases n with
              | zero => simp [DataW.trod] at hy
              | succ n => unfold DataW.trod at hy; rw [hue] at hy; simp at hy
            | some d =>
              cases hA : isA d with
              | true => exact ⟨.agg L, hL, ⟨d, rfl, by simp [PV.isAgg, hA]⟩, hLl, fin _ rfl⟩
              | false =>
                obtain ⟨v, rfl, hv⟩ := isAgg_len hL ⟨d, hue, hA⟩
                have hvc : v.cells = [v] := by cases v <;> first | rfl | simp [PV.isAgg] at hv
                exact ⟨v, by rw [hvc]; exact hL, ⟨d, rfl, by rw [hv, hA]⟩, by rw [hvc]; exact hLl, fin v hvc⟩
          have hsp : a = ⟨a.block, a.off, none⟩ := by
            have h1 := hel 0 hl0
            obtain ⟨z, hz'⟩ : ∃ z, elems[0]? = some z := ⟨elems[0]'(by omega), List.getElem?_eq_getElem (by omega)⟩
            rw [hz', Option.bind_eq_some_iff] at h1
            obtain ⟨cs', hc, hy⟩ := h1
            have h2 := (cellAt hc hpos).1
            have : a.spot = none := by
              have := congrArg Addr.spot h2
              simpa [Addr.add] using this
            cases a
            simp only at this
            subst this
            rfl
          have hcell : ∀ i j, i < len → j < s → ∃ u, w.cell? ⟨a.block, a.off + i * s + j, none⟩ = some u := by
            intro i j hi hj
            have h1 := hel i hi
            obtain ⟨z, hz'⟩ : ∃ z, elems[i]? = some z := ⟨elems[i]'(by omega), List.getElem?_eq_getElem (by omega)⟩
            rw [hz', Option.bind_eq_some_iff] at h1
            obtain ⟨cs', hc, hy⟩ := h1
            obtain ⟨_, h2, h3⟩ := cellAt hc hpos
            have h4 := (h3 j _ (List.getElem?_eq_getElem (show j < cs'.length by omega))).2
            rw [add_block', add_off'] at h4
            exact ⟨_, h4⟩
          have each' : ∀ i, ∃ v : PV, i < len → HasTy P e v.cells ∧ (∃ d, P.underlying e = some d ∧ v.isAgg = isA d) ∧ v.cells.length = s ∧ ∀ j u, (∃ cv, v.cells[j]? = some cv ∧ True) → w.cell? ⟨a.block, a.off + i * s + j, none⟩ = some u → (imm a.block ∧ u.oneCell' = true ∧ ∀ cv, v.cells[j]? = some cv → IRel imm w cv u) := by
            intro i
            by_cases hi : i < len
            · obtain ⟨v, hv⟩ := each i hi
              exact ⟨v, fun _ => hv⟩
            · exact ⟨.junk, fun h => absurd h hi⟩
          obtain ⟨V, hV⟩ : ∃ V : Nat → PV, ∀ i, i < len → HasTy P e (V i).cells ∧ (∃ d, P.underlying e = some d ∧ (V i).isAgg = isA d) ∧ (V i).cells.length = s ∧ ∀ j u, (∃ cv, (V i).cells[j]? = some cv ∧ True) → w.cell? ⟨a.block, a.off + i * s + j, none⟩ = some u → (imm a.block ∧ u.oneCell' = true ∧ ∀ cv, (V i).cells[j]? = some cv → IRel imm w cv u) :=
            ⟨fun i => (each' i).choose, fun i hi => (each' i).choose_spec hi⟩
          have hget : ∀ i e', ((List.range len).map V)[i]? = some e' → i < len ∧ e' = V i := by
            intro i e' he
            have hi : i < len := by have := getElem?_some_lt he; simpa using this
            simp [hi] at he
            exact ⟨hi, he.symm⟩
          refine ⟨_, .sl t e ((List.range len).map V) hu (by simp; omega) (fun v hv => ?_) (fun v hv => ?_), .one ⟨?_, rfl⟩⟩
          · obtain ⟨i, hi, rfl⟩ := List.mem_map.1 hv
            have hi : i < len := List.mem_range.1 hi
            exact (hV i hi).1
          · obtain ⟨i, hi, rfl⟩ := List.mem_map.1 hv
            have hi : i < len := List.mem_range.1 hi
            exact (hV i hi).2.1
          · rw [hsp]
            have := IRel.vs (imm := imm) (w := w) .nn ((List.range len).map V) a.block a.off cap s (fun i j => (w.cell? ⟨a.block, a.off + i * s + j, none⟩).getD undef) (by simp) (by simp; exact hlc) (by simp)
              (fun i e' he => by
                obtain ⟨hi, rfl⟩ := hget i e' he
                exact (hV i hi).2.2.1)
              (fun i j hi hj => by
                have hi : i < len := by simpa using hi
                obtain ⟨u, hu'⟩ := hcell i j hi hj
                obtain ⟨_, _, h5, h6⟩ := hV i hi
                obtain ⟨h7, h8, _⟩ := h6 j u ⟨_, List.getElem?_eq_getElem (by omega), trivial⟩ hu'
                rw [hu']
                exact ⟨h7, rfl, h8⟩)
              (fun i j e' cv he hcv => by
                obtain ⟨hi, rfl⟩ := hget i e' he
                obtain ⟨_, _, h5, h6⟩ := hV i hi
                have hj : j < s := by rw [← h5]; exact getElem?_some_lt hcv
                obtain ⟨u, hu'⟩ := hcell i j hi hj
                rw [hu']
                exact (h6 j u ⟨cv, hcv, trivial⟩ hu').2.2 cv hcv)
            simpa using this
      | struct fs =>
        obtain ⟨xs, m, hm, _, hl, hx, hf⟩ := DataW.trod_struct hu h
        simp only [Nat.add_right_cancel_iff] at hm
        subst hm
        obtain ⟨k1, k2, k3⟩ := K.struct hT hu
        obtain ⟨Ls, h1, h2, h3⟩ := structs_of (P := P) (T := T) (imm := imm) (w := w) (rd := fun t cs => ∃ x, DataW.trod enc P w 0 spare held n t cs = some x) (Hs := HasTy P) (fun t cs hT ⟨x, hx⟩ => ih t cs x hT hx) fs.toList 0 cs k1 (fun j f hf => by rw [Nat.zero_add]; exact k3 j f hf)
          (fun f hf' => by
            obtain ⟨i, hi, rfl⟩ := List.mem_iff_getElem.1 hf'
            have e1 : fs[i]? = some fs.toList[i] := by simp
            rw [hf i _ e1]
            exact ⟨xs[i]'(by rw [hx]; simpa using hi), List.getElem?_eq_getElem _⟩)
        refine ⟨_, .struct t fs Ls hu (by simpa using h1) (fun i f L hf hL => h2 i f L (by simpa using hf) hL), ?_⟩
        rw [List.drop_zero, ← k2, ← hl, List.take_length] at h3
        exact h3
      | array m e =>
        obtain ⟨k1, k2⟩ := K.array hT hu
        unfold DataW.trod at h
        rw [hu] at h
        have hcs : cs.length = P.cellsOf t ∧ ∃ xs, (List.range m).mapM (fun i => DataW.trod enc P w 0 spare held n e ((cs.drop (i * P.cellsOf e)).take (P.cellsOf e))) = some xs := by
          split at h <;> simp_all
          exact ⟨_, h.2.choose_spec.1⟩
        obtain ⟨hl, xs, hxs⟩ := hcs
        obtain ⟨Ls, h1, h2, h3⟩ := arrays_of (imm := imm) (w := w) (s := P.cellsOf e) (rd := fun cs => ∃ x, DataW.trod enc P w 0 spare held n e cs = some x) (Hs := HasTy P e) (fun cs ⟨x, hx⟩ => ih e cs x k1 hx) m 0 cs
          (fun i hi => by
            rw [Nat.zero_add]
            have := mapM_some_get hxs i i (by simp [hi])
            exact ⟨xs[i]'(by rw [mapM_some_length hxs]; simpa using hi), this.trans (List.getElem?_eq_getElem _)⟩)
        refine ⟨_, .array t e m Ls hu h1 h2, ?_⟩
        rw [List.drop_zero, ← k2, ← hl, List.take_length] at h3
        exact h3
      | _ =>
        obtain ⟨v, rfl, h1⟩ := trod_cell h (by rw [hu]; simp) (by rw [hu]; simp)
        exact ⟨_, .other t _ hu rfl, .one ⟨.junk _, h1⟩⟩

end
end Go.VI
