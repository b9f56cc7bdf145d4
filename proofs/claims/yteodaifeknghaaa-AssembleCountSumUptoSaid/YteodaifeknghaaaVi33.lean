/- The input of a call: what is read of an argument as VI's values; what is asked behind the call. -/
import Derived.Test.YteodaifeknghaaaVi32
import Derived.ChangeArms
import Derived.ChangeSame
import Derived.ChangeBears
import Derived.ReadAgain
import Derived.ChangeOld
import Derived.ChangeReads
import Derived.RowKit3
import Derived.DataReads
namespace Go.VI

/-- The types whose values VI speaks of. -/
def spoken : TypeDesc → Bool
  | .bool | .int _ | .string | .pointer _ | .slice _ | .struct _ | .array _ _ => true
  | _ => false

/-- Values of a type, as VI's cells. -/
inductive HasTy (P : Program) : TypeId → List PV → Prop
  | bool (t : TypeId) (b : Bool) (h : P.underlying t = some .bool) : HasTy P t [.bool b]
  | int (t : TypeId) (k : IntKind) (n : Int) (h : P.underlying t = some (.int k)) (hw : (Lit.int k n).wf = true) : HasTy P t [.int k n]
  | str (t : TypeId) (s : List UInt8) (h : P.underlying t = some .string) (hl : s.length ≤ maxLen) : HasTy P t [.str s]
  | nilp (t e : TypeId) (h : P.underlying t = some (.pointer e)) : HasTy P t [.nilp]
  | ip (t e : TypeId) (cs : List PV) (h : P.underlying t = some (.pointer e)) (hc : HasTy P e cs) : HasTy P t [.ip cs]
  | zero (t e : TypeId) (h : P.underlying t = some (.pointer e)) (h0 : P.cellsOf e = 0) : HasTy P t [.junk]
  | nils (t e : TypeId) (h : P.underlying t = some (.slice e)) : HasTy P t [.vs .nil []]
  | sl (t e : TypeId) (L : List PV) (h : P.underlying t = some (.slice e)) (hl : L.length ≤ maxLen) (hL : ∀ v ∈ L, HasTy P e v.cells) (hA : ∀ v ∈ L, ∃ d, P.underlying e = some d ∧ v.isAgg = isA d) : HasTy P t [.vs .nn L]
  | struct (t : TypeId) (fs : Array Field) (Ls : List (List PV)) (h : P.underlying t = some (.struct fs)) (hl : Ls.length = fs.size) (hf : ∀ (i : Nat) f L, fs[i]? = some f → Ls[i]? = some L → HasTy P f.type L) : HasTy P t Ls.flatten
  | array (t e : TypeId) (n : Nat) (Ls : List (List PV)) (h : P.underlying t = some (.array n e)) (hl : Ls.length = n) (hf : ∀ L ∈ Ls, HasTy P e L) : HasTy P t Ls.flatten
  | other (t : TypeId) (d : TypeDesc) (h : P.underlying t = some d) (hA : spoken d = false) : HasTy P t [.junk]

mutual
/-- How much a value of VI's holds. -/
def pbulk : PV → Nat
  | .str s => s.length + 1
  | .ip cs => pbulkL cs + 1
  | .vs _ L => pbulkL L + 1
  | .agg cs => pbulkL cs + 1
  | _ => 1
def pbulkL : List PV → Nat
  | [] => 0
  | v :: r => pbulk v + pbulkL r
end

mutual
/-- How much a reading holds. -/
def dbulk {H : Type} : DataW H → Nat
  | .lit (.string bytes) => bytes.length + 1
  | .lit _ => 1
  | .nil => 1
  | .ptr d => dbulk d + 1
  | .slice elems spare => dbulkAll elems + dbulkAll spare + 1
  | .agg parts => dbulkAll parts + 1
  | .iface _ d => dbulk d + 1
  | .map entries => dbulkEntries entries + 1
  | .held _ => 1
def dbulkAll {H : Type} : List (DataW H) → Nat
  | [] => 0
  | d :: r => dbulk d + dbulkAll r
def dbulkEntries {H : Type} : List (Lit × DataW H) → Nat
  | [] => 0
  | x :: r => dbulkEntry x + dbulkEntries r
def dbulkEntry {H : Type} : Lit × DataW H → Nat
  | (.string bytes, d) => bytes.length + dbulk d + 1
  | (_, d) => dbulk d + 1
end

theorem dbulk_pos {H : Type} (d : DataW H) : 1 ≤ dbulk d := by
  cases d with
  | lit l => cases l <;> simp [dbulk]
  | nil => simp [dbulk]
  | ptr d => simp [dbulk]
  | slice elems spare => simp [dbulk]
  | agg parts => simp [dbulk]
  | iface t d => simp [dbulk]
  | map entries => simp [dbulk]
  | held h => simp [dbulk]

theorem pbulkL_append : ∀ (l m : List PV), pbulkL (l ++ m) = pbulkL l + pbulkL m
  | [], m => by simp [pbulkL]
  | v :: l, m => by simp [pbulkL, pbulkL_append l m]; omega

theorem pbulkL_map_le {α : Type} {f : α → PV} {g : α → Nat} : ∀ (l : List α), (∀ x ∈ l, pbulk (f x) ≤ g x) → pbulkL (l.map f) ≤ (l.map g).sum
  | [], _ => by simp [pbulkL]
  | x :: l, h => by
    have h1 := h x (List.mem_cons_self ..)
    have h2 := pbulkL_map_le (f := f) (g := g) l fun y hy => h y (List.mem_cons_of_mem _ hy)
    simp only [List.map_cons, pbulkL, List.sum_cons]
    omega

theorem dbulkAll_eq {H : Type} : ∀ (l : List (DataW H)), dbulkAll l = (l.map dbulk).sum
  | [] => rfl
  | d :: l => by simp [dbulkAll, dbulkAll_eq l]

inductive F2 {α β : Type} (R : α → β → Prop) : List α → List β → Prop
  | nil : F2 R [] []
  | cons {a b l m} (h : R a b) (t : F2 R l m) : F2 R (a :: l) (b :: m)

theorem F2.append {α β : Type} {R : α → β → Prop} {l l' : List α} {m m' : List β} (h : F2 R l m) (h' : F2 R l' m') : F2 R (l ++ l') (m ++ m') := by
  induction h with
  | nil => exact h'
  | cons h _ ih => exact .cons h ih

theorem F2.len {α β : Type} {R : α → β → Prop} {l : List α} {m : List β} (h : F2 R l m) : l.length = m.length := by
  induction h with
  | nil => rfl
  | cons _ _ ih => simp [ih]

theorem F2.get {α β : Type} {R : α → β → Prop} {l : List α} {m : List β} (h : F2 R l m) : ∀ (i : Nat) a b, l[i]? = some a → m[i]? = some b → R a b := by
  induction h with
  | nil => intro i a b h; simp at h
  | cons h _ ih =>
    intro i a b ha hb
    cases i with
    | zero => simp at ha hb; exact ha ▸ hb ▸ h
    | succ i => exact ih i a b (by simpa using ha) (by simpa using hb)

theorem F2.one {α β : Type} {R : α → β → Prop} {a : α} {b : β} (h : R a b) : F2 R [a] [b] := .cons h .nil

section
variable {H : Type} {enc : TypeId × Value → H} {P : Program} {w : World} {spare : Nat → Bool} {held : Bool} {T : TypeId → Prop} {imm : Nat → Prop}

/-- A cell. -/
def CellR (imm : Nat → Prop) (w : World) (v : PV) (u : Value) : Prop := IRel imm w v u ∧ u.oneCell' = true

theorem cells?_get {base : Nat} {a : Addr} {n : Nat} {cs : List Value} (h : w.cells? base a n = some cs) : cs.length = n ∧ ∀ i, i < n → w.cell? (a.add i) = cs[i]? := by
  exact (World.cells?_some h).2

theorem add_block' (a : Addr) (n : Nat) : (a.add n).block = a.block := by unfold Addr.add; split <;> rfl
theorem add_off' (a : Addr) (n : Nat) : (a.add n).off = a.off + n := by
  unfold Addr.add
  split
  · subst_vars; rfl
  · rfl

theorem trod_cell {n : Nat} {t : TypeId} {cs : List Value} {x : DataW H × List MemPlace} (h : DataW.trod enc P w 0 spare held (n + 1) t cs = some x) (hA : ∀ fs, P.underlying t ≠ some (.struct fs)) (hB : ∀ n e, P.underlying t ≠ some (.array n e)) : ∃ v, cs = [v] ∧ v.oneCell' = true := by
  unfold DataW.trod at h
  split at h <;> first
    | exact ⟨_, rfl, rfl⟩
    | exact absurd ‹_› (hA _)
    | exact absurd ‹_› (hB _ _)
    | cases h

theorem structs_of {rd : TypeId → List Value → Nat → Prop} {Hs : TypeId → List PV → Prop} (hr : ∀ t cs b, T t → rd t cs b → ∃ L, Hs t L ∧ F2 (CellR imm w) L cs ∧ pbulkL L ≤ b) :
    ∀ (fs : List Field) (bs : List Nat) (o : Nat) (cs : List Value), (∀ f ∈ fs, T f.type) → (∀ (j : Nat) f, fs[j]? = some f → f.offset = o + ((fs.take j).map fun f => P.cellsOf f.type).sum) → bs.length = fs.length → (∀ (i : Nat) f b, fs[i]? = some f → bs[i]? = some b → rd f.type ((cs.drop f.offset).take (P.cellsOf f.type)) b) →
      ∃ Ls : List (List PV), Ls.length = fs.length ∧ (∀ (i : Nat) f L, fs[i]? = some f → Ls[i]? = some L → Hs f.type L) ∧ F2 (CellR imm w) Ls.flatten ((cs.drop o).take (fs.map fun f => P.cellsOf f.type).sum) ∧ pbulkL Ls.flatten ≤ bs.sum
  | [], bs, o, cs, _, _, _, _ => ⟨[], rfl, fun i f L h => by simp at h, by simpa using F2.nil, by simp [pbulkL]⟩
  | f :: fs, [], o, cs, _, _, hl, _ => by simp at hl
  | f :: fs, b :: bs, o, cs, hT, hoff, hl, hrd => by
    have h0 : f.offset = o := by simpa using hoff 0 f rfl
    obtain ⟨L, h1, h2, hb1⟩ := hr f.type _ b (hT f (List.mem_cons_self ..)) (hrd 0 f b rfl rfl)
    rw [h0] at h2
    obtain ⟨Ls, h3, h4, h5, hb2⟩ := structs_of hr fs bs (o + P.cellsOf f.type) cs (fun g hg => hT g (List.mem_cons_of_mem _ hg)) (fun j g hg => by
      have := hoff (j + 1) g (by simpa using hg)
      simp only [List.take_succ_cons, List.map_cons, List.sum_cons] at this
      omega) (by simpa using hl) (fun i g b hg hb => hrd (i + 1) g b (by simpa using hg) (by simpa using hb))
    refine ⟨L :: Ls, by simp [h3], fun i g M hg hM => ?_, ?_, by simp [pbulkL_append]; omega⟩
    · cases i with
      | zero => simp at hg hM; exact hg ▸ hM ▸ h1
      | succ i => exact h4 i g M (by simpa using hg) (by simpa using hM)
    · simp only [List.flatten_cons, List.map_cons, List.sum_cons]
      rw [List.take_add, List.drop_drop]
      exact h2.append h5

theorem arrays_of {rd : List Value → Nat → Prop} {Hs : List PV → Prop} {s : Nat} (hr : ∀ cs b, rd cs b → ∃ L, Hs L ∧ F2 (CellR imm w) L cs ∧ pbulkL L ≤ b) :
    ∀ (n o : Nat) (bs : List Nat) (cs : List Value), bs.length = n → (∀ i b, i < n → bs[i]? = some b → rd ((cs.drop (o + i * s)).take s) b) → ∃ Ls : List (List PV), Ls.length = n ∧ (∀ L ∈ Ls, Hs L) ∧ F2 (CellR imm w) Ls.flatten ((cs.drop o).take (n * s)) ∧ pbulkL Ls.flatten ≤ bs.sum
  | 0, o, bs, cs, _, _ => ⟨[], rfl, fun L h => (by cases h), by simpa using F2.nil, by simp [pbulkL]⟩
  | n + 1, o, [], cs, hl, _ => by simp at hl
  | n + 1, o, b :: bs, cs, hl, h => by
    obtain ⟨L, h1, h2, hb1⟩ := hr _ b (h 0 b (by omega) rfl)
    simp only [Nat.zero_mul, Nat.add_zero] at h2
    obtain ⟨Ls, h3, h4, h5, hb2⟩ := arrays_of hr n (o + s) bs cs (by simpa using hl) (fun i b hi hb => by
      have := h (i + 1) b (by omega) (by simpa using hb)
      rwa [show o + (i + 1) * s = o + s + i * s by rw [Nat.add_mul]; omega] at this)
    refine ⟨L :: Ls, by simp [h3], fun M hM => ?_, ?_, by simp [pbulkL_append]; omega⟩
    · rcases List.mem_cons.1 hM with rfl | hM
      · exact h1
      · exact h4 M hM
    · simp only [List.flatten_cons]
      rw [show (n + 1) * s = s + n * s by rw [Nat.add_mul]; omega, List.take_add, List.drop_drop]
      exact h2.append h5

/-- What is read of memory that will not be written any more. -/
theorem irel_of_trod (hall : ∀ b, spare b = true) (K : Kids P T) (hz : ∀ t e, T t → P.underlying t = some (.slice e) → 0 < P.cellsOf e) (hI : ∀ b, b < w.heap.size → imm b) :
    ∀ (n : Nat) (t : TypeId) (cs : List Value) (x : DataW H × List MemPlace), T t → DataW.trod enc P w 0 spare held n t cs = some x → ∃ L, HasTy P t L ∧ F2 (CellR imm w) L cs ∧ pbulkL L + (match P.underlying t with | some d => if isA d then 1 else 0 | none => 0) ≤ dbulk x.1 := by
  intro n
  induction n with
  | zero => intro t cs x _ h; simp [DataW.trod] at h
  | succ n ih =>
    intro t cs x hT h
    have h0 := h
    have cellAt : ∀ {a : Addr} {m : Nat} {cs' : List Value}, w.cells? 0 a m = some cs' → 0 < m → a = ⟨a.block, a.off, none⟩ ∧ cs'.length = m ∧ ∀ j u, cs'[j]? = some u → imm a.block ∧ w.cell? ⟨a.block, a.off + j, none⟩ = some u := by
      intro a m cs' hc hm
      obtain ⟨h1, h2⟩ := cells?_get hc
      have hb : a.block < w.heap.size := World.cells?_block hc hm
      have hsp : a.spot = none := by
        have h3 := h2 0 hm
        cases hs : a.spot with
        | none => rfl
        | some k =>
          have : w.cell? (a.add 0) = none := by
            unfold World.cell?
            have : (a.add 0).spot = some k := hs
            rw [this]
            split <;> rfl
          rw [this] at h3
          have : cs'[0]? = some cs'[0] := List.getElem?_eq_getElem (by omega)
          rw [this] at h3
          cases h3
      have ha : a = ⟨a.block, a.off, none⟩ := by
        cases a
        simp only at hsp
        subst hsp
        rfl
      refine ⟨ha, h1, fun j u hj => ⟨hI _ hb, ?_⟩⟩
      have hjm : j < m := h1 ▸ getElem?_some_lt hj
      have h3 := h2 j hjm
      rw [hj, ha, add_none] at h3
      exact h3
    have isAgg_len : ∀ {e : TypeId} {L : List PV}, HasTy P e L → (∃ d, P.underlying e = some d ∧ isA d = false) → ∃ v, L = [v] ∧ v.isAgg = false := by
      intro e L hL hd
      obtain ⟨d, hd, hA⟩ := hd
      cases hL with
      | other _ d' h hA' => exact ⟨_, rfl, rfl⟩
      | struct _ fs Ls h => rw [h] at hd; simp only [Option.some.injEq] at hd; subst hd; simp [isA] at hA
      | array _ e n Ls h => rw [h] at hd; simp only [Option.some.injEq] at hd; subst hd; simp [isA] at hA
      | _ => exact ⟨_, rfl, rfl⟩
    cases hu : P.underlying t with
    | none =>
      unfold DataW.trod at h
      rw [hu] at h
      simp at h
    | some d =>
      cases d with
      | bool =>
        obtain ⟨b, rfl, _⟩ := DataW.trod_bool hu h
        exact ⟨_, .bool t b hu, .one ⟨.bool b, rfl⟩, by have := dbulk_pos x.1; simpa [isA, pbulkL, pbulk] using this⟩
      | int k =>
        obtain ⟨m, rfl, _, hw⟩ := DataW.trod_int hu h
        exact ⟨_, .int t k m hu hw, .one ⟨.int k m, rfl⟩, by have := dbulk_pos x.1; simpa [isA, pbulkL, pbulk] using this⟩
      | string =>
        obtain ⟨s, rfl, hx, hs⟩ := DataW.trod_string hu h
        refine ⟨_, .str t s.data.toList hu ?_, .one ⟨.str s, rfl⟩, by rw [hx]; simp [isA, pbulkL, pbulk, dbulk]⟩
        simpa using hs
      | pointer e =>
        rcases DataW.trod_pointer hu h with ⟨rfl, _⟩ | ⟨a, cs', y, m, hm, rfl, hx, hc, hy⟩
        · exact ⟨_, .nilp t e hu, .one ⟨.nilp, rfl⟩, by have := dbulk_pos x.1; simpa [isA, pbulkL, pbulk] using this⟩
        · simp only [Nat.add_right_cancel_iff] at hm
          subst hm
          obtain ⟨L, hL, hF, hbk⟩ := ih e cs' y (K.pointer hT hu) hy
          rcases Nat.eq_zero_or_pos (P.cellsOf e) with h0 | hpos
          · exact ⟨_, .zero t e hu h0, .one ⟨.junk _, rfl⟩, by have := dbulk_pos x.1; simpa [isA, pbulkL, pbulk] using this⟩
          obtain ⟨ha, h1, h2⟩ := cellAt hc hpos
          refine ⟨_, .ip t e L hu hL, .one ⟨?_, rfl⟩, by rw [hx]; simp [isA, pbulkL, pbulk, dbulk]; omega⟩
          rw [ha]
          exact .ip L a.block a.off (fun j => cs'.getD j undef) (fun j hj => by
            have hj' : j < cs'.length := hF.len ▸ hj
            have e1 : cs'[j]? = some cs'[j] := List.getElem?_eq_getElem hj'
            have e2 : L[j]? = some L[j] := List.getElem?_eq_getElem hj
            obtain ⟨h3, h4⟩ := h2 j _ e1
            rw [List.getD, e1]
            exact ⟨h3, h4, (hF.get j _ _ e2 e1).2⟩) (fun j cv hj => by
            have hj' : j < cs'.length := hF.len ▸ getElem?_some_lt hj
            have e1 : cs'[j]? = some cs'[j] := List.getElem?_eq_getElem hj'
            rw [List.getD, e1]
            exact (hF.get j _ _ hj e1).1)
      | slice e =>
        rcases DataW.trod_slice hu h with ⟨rfl, _⟩ | ⟨a, len, cap, elems, rest, m, hm, rfl, hx, _, hlc, hcm, hlen, hel, hrest, _⟩
        · exact ⟨_, .nils t e hu, .one ⟨.vsNone _ (by simp), rfl⟩, by have := dbulk_pos x.1; simpa [isA, pbulkL, pbulk] using this⟩
        · simp only [Nat.add_right_cancel_iff] at hm
          subst hm
          have hpos := hz t e hT hu
          obtain ⟨s, hs⟩ : ∃ s, s = P.cellsOf e := ⟨_, rfl⟩
          rw [← hs] at hel hpos
          rcases Nat.eq_zero_or_pos len with rfl | hl0
          · rcases Nat.eq_zero_or_pos cap with rfl | hc0
            · exact ⟨_, .sl t e [] hu (by simp) (fun v hv => by cases hv) (fun v hv => by cases hv), .one ⟨.vsE _ a (by simp), rfl⟩, by have := dbulk_pos x.1; simpa [isA, pbulkL, pbulk] using this⟩
            · obtain ⟨hrl, hr⟩ := hrest (hall _)
              have h1 := hr 0 (by omega)
              obtain ⟨z, hz'⟩ : ∃ z, rest[0]? = some z := ⟨rest[0]'(by omega), List.getElem?_eq_getElem (by omega)⟩
              rw [hz', Option.bind_eq_some_iff] at h1
              obtain ⟨cs', hc, hy⟩ := h1
              rw [← hs] at hc
              have h2 := (cellAt hc hpos).1
              have hspt : a.spot = none := by
                have := congrArg Addr.spot h2
                simpa [Addr.add] using this
              have ha : a = ⟨a.block, a.off, none⟩ := by
                cases a
                simp only at hspt
                subst hspt
                rfl
              refine ⟨_, .sl t e [] hu (by simp) (fun v hv => by cases hv) (fun v hv => by cases hv), .one ⟨?_, rfl⟩, by have := dbulk_pos x.1; simpa [isA, pbulkL, pbulk] using this⟩
              rw [ha]
              exact .vs .nn [] a.block a.off cap 0 (fun _ _ => undef) (by simp) (Nat.zero_le _) (by simp) (fun i e he => by simp at he) (fun i j hi => by simp at hi) (fun i j e cv he => by simp at he)
          have each : ∀ i, i < len → ∃ v : PV, pbulk v ≤ ((elems.map fun z => dbulk z.1)[i]?).getD 0 ∧ HasTy P e v.cells ∧ (∃ d, P.underlying e = some d ∧ v.isAgg = isA d) ∧ v.cells.length = s ∧ ∀ j u, (∃ cv, v.cells[j]? = some cv ∧ True) → w.cell? ⟨a.block, a.off + i * s + j, none⟩ = some u → (imm a.block ∧ u.oneCell' = true ∧ ∀ cv, v.cells[j]? = some cv → IRel imm w cv u) := by
            intro i hi
            have h1 := hel i hi
            obtain ⟨z, hz'⟩ : ∃ z, elems[i]? = some z := ⟨elems[i]'(by omega), List.getElem?_eq_getElem (by omega)⟩
            rw [hz', Option.bind_eq_some_iff] at h1
            obtain ⟨cs', hc, hy⟩ := h1
            obtain ⟨L, hL, hF, hbk⟩ := ih e cs' z (K.slice hT hu) hy
            have hzb : ((elems.map fun z => dbulk z.1)[i]?).getD 0 = dbulk z.1 := by simp [hz']
            obtain ⟨_, h2, h3⟩ := cellAt hc hpos
            have hLl : L.length = s := by rw [hF.len, h2]
            have fin : ∀ v : PV, v.cells = L → ∀ j u, (∃ cv, v.cells[j]? = some cv ∧ True) → w.cell? ⟨a.block, a.off + i * s + j, none⟩ = some u → (imm a.block ∧ u.oneCell' = true ∧ ∀ cv, v.cells[j]? = some cv → IRel imm w cv u) := by
              intro v hv j u ⟨cv, hcv, _⟩ hu'
              rw [hv] at hcv ⊢
              have hj : j < cs'.length := by rw [h2, ← hLl]; exact getElem?_some_lt hcv
              have e1 : cs'[j]? = some cs'[j] := List.getElem?_eq_getElem hj
              obtain ⟨h4, h5⟩ := h3 j _ e1
              have h5' : w.cell? ⟨a.block, a.off + i * s + j, none⟩ = some cs'[j] := by rw [add_block', add_off'] at h5; exact h5
              rw [hu'] at h5'
              simp only [Option.some.injEq] at h5'
              subst h5'
              rw [add_block'] at h4
              exact ⟨h4, (hF.get j _ _ hcv e1).2, fun cv hcv => (hF.get j _ _ hcv e1).1⟩
            cases hue : P.underlying e with
            | none =>
              exfalso
              cases n with
              | zero => simp [DataW.trod] at hy
              | succ n => unfold DataW.trod at hy; rw [hue] at hy; simp at hy
            | some d =>
              cases hA : isA d with
              | true => exact ⟨.agg L, by rw [hzb]; rw [hue] at hbk; simpa [hA, pbulk] using hbk, hL, ⟨d, rfl, by simp [PV.isAgg, hA]⟩, hLl, fin _ rfl⟩
              | false =>
                obtain ⟨v, rfl, hv⟩ := isAgg_len hL ⟨d, hue, hA⟩
                have hvc : v.cells = [v] := by cases v <;> first | rfl | simp [PV.isAgg] at hv
                exact ⟨v, by rw [hzb]; rw [hue] at hbk; simpa [hA, pbulkL] using hbk, by rw [hvc]; exact hL, ⟨d, rfl, by rw [hv, hA]⟩, by rw [hvc]; exact hLl, fin v hvc⟩
          have hsp : a = ⟨a.block, a.off, none⟩ := by
            have h1 := hel 0 hl0
            obtain ⟨z, hz'⟩ : ∃ z, elems[0]? = some z := ⟨elems[0]'(by omega), List.getElem?_eq_getElem (by omega)⟩
            rw [hz', Option.bind_eq_some_iff] at h1
            obtain ⟨cs', hc, hy⟩ := h1
            have h2 := (cellAt hc hpos).1
            have : a.spot = none := by
              have := congrArg Addr.spot h2
              simpa [Addr.add] using this
            cases a
            simp only at this
            subst this
            rfl
          have hcell : ∀ i j, i < len → j < s → ∃ u, w.cell? ⟨a.block, a.off + i * s + j, none⟩ = some u := by
            intro i j hi hj
            have h1 := hel i hi
            obtain ⟨z, hz'⟩ : ∃ z, elems[i]? = some z := ⟨elems[i]'(by omega), List.getElem?_eq_getElem (by omega)⟩
            rw [hz', Option.bind_eq_some_iff] at h1
            obtain ⟨cs', hc, hy⟩ := h1
            obtain ⟨_, h2, h3⟩ := cellAt hc hpos
            have h4 := (h3 j _ (List.getElem?_eq_getElem (show j < cs'.length by omega))).2
            rw [add_block', add_off'] at h4
            exact ⟨_, h4⟩
          have each' : ∀ i, ∃ v : PV, i < len → pbulk v ≤ ((elems.map fun z => dbulk z.1)[i]?).getD 0 ∧ HasTy P e v.cells ∧ (∃ d, P.underlying e = some d ∧ v.isAgg = isA d) ∧ v.cells.length = s ∧ ∀ j u, (∃ cv, v.cells[j]? = some cv ∧ True) → w.cell? ⟨a.block, a.off + i * s + j, none⟩ = some u → (imm a.block ∧ u.oneCell' = true ∧ ∀ cv, v.cells[j]? = some cv → IRel imm w cv u) := by
            intro i
            by_cases hi : i < len
            · obtain ⟨v, hv⟩ := each i hi
              exact ⟨v, fun _ => hv⟩
            · exact ⟨.junk, fun h => absurd h hi⟩
          obtain ⟨V, hV⟩ : ∃ V : Nat → PV, ∀ i, i < len → pbulk (V i) ≤ ((elems.map fun z => dbulk z.1)[i]?).getD 0 ∧ HasTy P e (V i).cells ∧ (∃ d, P.underlying e = some d ∧ (V i).isAgg = isA d) ∧ (V i).cells.length = s ∧ ∀ j u, (∃ cv, (V i).cells[j]? = some cv ∧ True) → w.cell? ⟨a.block, a.off + i * s + j, none⟩ = some u → (imm a.block ∧ u.oneCell' = true ∧ ∀ cv, (V i).cells[j]? = some cv → IRel imm w cv u) :=
            ⟨fun i => (each' i).choose, fun i hi => (each' i).choose_spec hi⟩
          have hget : ∀ i e', ((List.range len).map V)[i]? = some e' → i < len ∧ e' = V i := by
            intro i e' he
            have hi : i < len := by have := getElem?_some_lt he; simpa using this
            simp [hi] at he
            exact ⟨hi, he.symm⟩
          refine ⟨_, .sl t e ((List.range len).map V) hu (by simp; omega) (fun v hv => ?_) (fun v hv => ?_), .one ⟨?_, rfl⟩, ?_⟩
          · obtain ⟨i, hi, rfl⟩ := List.mem_map.1 hv
            have hi : i < len := List.mem_range.1 hi
            exact (hV i hi).2.1
          · obtain ⟨i, hi, rfl⟩ := List.mem_map.1 hv
            have hi : i < len := List.mem_range.1 hi
            exact (hV i hi).2.2.1
          · rw [hsp]
            have := IRel.vs (imm := imm) (w := w) .nn ((List.range len).map V) a.block a.off cap s (fun i j => (w.cell? ⟨a.block, a.off + i * s + j, none⟩).getD undef) (by simp) (by simp; exact hlc) (by simp)
              (fun i e' he => by
                obtain ⟨hi, rfl⟩ := hget i e' he
                exact (hV i hi).2.2.2.1)
              (fun i j hi hj => by
                have hi : i < len := by simpa using hi
                obtain ⟨u, hu'⟩ := hcell i j hi hj
                obtain ⟨_, _, _, h5, h6⟩ := hV i hi
                obtain ⟨h7, h8, _⟩ := h6 j u ⟨_, List.getElem?_eq_getElem (by omega), trivial⟩ hu'
                rw [hu']
                exact ⟨h7, rfl, h8⟩)
              (fun i j e' cv he hcv => by
                obtain ⟨hi, rfl⟩ := hget i e' he
                obtain ⟨_, _, _, h5, h6⟩ := hV i hi
                have hj : j < s := by rw [← h5]; exact getElem?_some_lt hcv
                obtain ⟨u, hu'⟩ := hcell i j hi hj
                rw [hu']
                exact (h6 j u ⟨cv, hcv, trivial⟩ hu').2.2 cv hcv)
            simpa using this
          · rw [hx]
            have h1 := pbulkL_map_le (f := V) (g := fun i => ((elems.map fun z => dbulk z.1)[i]?).getD 0) (List.range len) fun i hi => (hV i (List.mem_range.1 hi)).1
            have h2 : (List.range len).map (fun i => ((elems.map fun z => dbulk z.1)[i]?).getD 0) = elems.map fun z => dbulk z.1 := by
              apply List.ext_getElem?
              intro i
              by_cases hi : i < len
              · simp [hi, List.getElem?_eq_getElem (show i < elems.length by omega)]
              · rw [List.getElem?_eq_none (by simp; omega), List.getElem?_eq_none (by simp; omega)]
            rw [h2] at h1
            simp only [isA, Bool.false_eq_true, if_false, pbulkL, pbulk, dbulk, dbulkAll_eq, List.map_map]
            have h3 : (List.map (dbulk ∘ fun z : DataW H × List MemPlace => z.1) elems) = elems.map fun z => dbulk z.1 := rfl
            rw [h3]
            omega
      | struct fs =>
        obtain ⟨xs, m, hm, hxx, hl, hx, hf⟩ := DataW.trod_struct hu h
        simp only [Nat.add_right_cancel_iff] at hm
        subst hm
        obtain ⟨k1, k2, k3⟩ := K.struct hT hu
        obtain ⟨Ls, h1, h2, h3, h4⟩ := structs_of (P := P) (T := T) (imm := imm) (w := w) (rd := fun t cs b => ∃ x, DataW.trod enc P w 0 spare held n t cs = some x ∧ dbulk x.1 = b) (Hs := HasTy P) (fun t cs b hT ⟨x, hx, hb⟩ => by
            obtain ⟨L, q1, q2, q3⟩ := ih t cs x hT hx
            exact ⟨L, q1, q2, by omega⟩) fs.toList (xs.map fun z => dbulk z.1) 0 cs k1 (fun j f hf => by rw [Nat.zero_add]; exact k3 j f hf) (by simp [hx])
          (fun i f b hf' hb => by
            have e1 : fs[i]? = some f := by simpa using hf'
            have hi : i < xs.length := by have := agetElem?_some_lt e1; omega
            rw [hf i f e1]
            refine ⟨xs[i], List.getElem?_eq_getElem hi, ?_⟩
            simpa [List.getElem?_eq_getElem hi] using hb)
        refine ⟨_, .struct t fs Ls hu (by simpa using h1) (fun i f L hf hL => h2 i f L (by simpa using hf) hL), ?_, ?_⟩
        · rw [List.drop_zero, ← k2, ← hl, List.take_length] at h3
          exact h3
        · rw [hxx]
          simp only [isA, if_true, dbulk, dbulkAll_eq, List.map_map]
          have h5 : (List.map (dbulk ∘ fun z : DataW H × List MemPlace => z.1) xs) = xs.map fun z => dbulk z.1 := rfl
          rw [h5]
          omega
      | array m e =>
        obtain ⟨k1, k2⟩ := K.array hT hu
        unfold DataW.trod at h
        rw [hu] at h
        have hcs : cs.length = P.cellsOf t ∧ ∃ xs, (List.range m).mapM (fun i => DataW.trod enc P w 0 spare held n e ((cs.drop (i * P.cellsOf e)).take (P.cellsOf e))) = some xs ∧ x.1 = .agg (xs.map (·.1)) := by
          split at h <;> simp_all
          obtain ⟨_, xs, h2, h3⟩ := h
          exact ⟨xs, h2, by rw [← h3]⟩
        obtain ⟨hl, xs, hxs, hxx⟩ := hcs
        have hxl := mapM_some_length hxs
        simp only [List.length_range] at hxl
        obtain ⟨Ls, h1, h2, h3, h4⟩ := arrays_of (imm := imm) (w := w) (s := P.cellsOf e) (rd := fun cs b => ∃ x, DataW.trod enc P w 0 spare held n e cs = some x ∧ dbulk x.1 = b) (Hs := HasTy P e) (fun cs b ⟨x, hx, hb⟩ => by
            obtain ⟨L, q1, q2, q3⟩ := ih e cs x k1 hx
            exact ⟨L, q1, q2, by omega⟩) m 0 (xs.map fun z => dbulk z.1) cs (by simp [hxl])
          (fun i b hi hb => by
            rw [Nat.zero_add]
            have h5 := mapM_some_get hxs i i (by simp [hi])
            have hi' : i < xs.length := by omega
            refine ⟨xs[i], h5.trans (List.getElem?_eq_getElem hi'), ?_⟩
            simpa [List.getElem?_eq_getElem hi'] using hb)
        refine ⟨_, .array t e m Ls hu h1 h2, ?_, ?_⟩
        · rw [List.drop_zero, ← k2, ← hl, List.take_length] at h3
          exact h3
        · rw [hxx]
          simp only [isA, if_true, dbulk, dbulkAll_eq, List.map_map]
          have h5 : (List.map (dbulk ∘ fun z : DataW H × List MemPlace => z.1) xs) = xs.map fun z => dbulk z.1 := rfl
          rw [h5]
          omega
      | _ =>
        obtain ⟨v, rfl, h1⟩ := trod_cell h (by rw [hu]; simp) (by rw [hu]; simp)
        exact ⟨_, .other t _ hu rfl, .one ⟨.junk _, h1⟩, by have := dbulk_pos x.1; simpa [isA, pbulkL, pbulk] using this⟩

end
end Go.VI
