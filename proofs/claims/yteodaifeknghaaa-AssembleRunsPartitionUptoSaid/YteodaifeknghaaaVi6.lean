/- Equality by shape; parts of values; building structs and arrays. -/
import Derived.Test.YteodaifeknghaaaVi5
import Derived.Laws.StructEq
import Derived.ChangeKeysEq
namespace Go.VI
variable {g : PG} {c : Ctx} {w : World} {fr fr' : Fr} {a : Act} {o : Oper} {callE : CallE} {yieldE : Nm → List PV → Heap → Option (PV × Heap)}

mutual
def eqOK (P : Program) : EqSh → TypeId → Bool
  | .eb, t => (match P.underlying t with
    | some .bool => (P.info? t).map (·.size) == some 1
    | _ => false)
  | .ei, t => (match P.underlying t with
    | some (.int _) => (P.info? t).map (·.size) == some 1
    | _ => false)
  | .es, t => (match P.underlying t with
    | some .string => (P.info? t).map (·.size) == some 1
    | _ => false)
  | .parts l, t => (match P.underlying t with
    | some (.struct fs) => !P.stoodInHeld t && eqOKF P l (fs.toList.filter fun f => decide (f.name ≠ "_"))
    | some (.array n e) => (match P.info? e with
      | some i => i.size == P.cellsOf e && l.length == n && eqOKA P e i.size 0 l
      | none => false)
    | _ => false)
def eqOKF (P : Program) : List (Nat × Nat × EqSh) → List Field → Bool
  | [], [] => true
  | (off, n, s) :: r, f :: fs => f.offset == off && (P.info? f.type).map (·.size) == some n && eqOK P s f.type && eqOKF P r fs
  | _, _ => false
def eqOKA (P : Program) (e : TypeId) (sz : Nat) : Nat → List (Nat × Nat × EqSh) → Bool
  | _, [] => true
  | j, (off, n, s) :: r => off == j * sz && n == sz && eqOK P s e && eqOKA P e sz (j + 1) r
end

mutual
def EqSh.depth : EqSh → Nat
  | .eb => 0
  | .ei => 0
  | .es => 0
  | .parts l => EqSh.depthL l + 1
def EqSh.depthL : List (Nat × Nat × EqSh) → Nat
  | [] => 0
  | (_, _, s) :: r => max s.depth (EqSh.depthL r)
end

/-- A value of a type and its cells. -/
def Sub (P : Program) (c : Ctx) (w : World) (t : TypeId) (cs : List PV) (x : Value) : Prop :=
  ∃ d, P.underlying t = some d ∧ (if isA d then ∃ us, x = .agg us ∧ LRel c w cs us else ∃ v, cs = [v] ∧ VRel c w v x)

theorem run_part {P : Program} {t : TypeId} {d : TypeDesc} {i : TypeInfo} {cs : List PV} {us : Array Value} {off : Nat} (h : LRel c w cs us) (hd : P.underlying t = some d) (hi : P.info? t = some i) (h1 : isA d = false → i.size = 1)
    (hne : isA d = false → (cs.drop off).take i.size ≠ []) : ∃ x, (part t us off).run P w = .ok x w ∧ Sub P c w t ((cs.drop off).take i.size) x := by
  by_cases ha : isA d = true
  · refine ⟨.agg (us.extract off (off + i.size)), ?_, d, hd, ?_⟩
    · simp [part, run_isAgg_agg P w hd, ha, run_sizeOf' P w hi]
    · rw [if_pos ha]
      refine ⟨_, rfl, ?_, fun j v u hv hu => ?_⟩
      · simp [h.1]; omega
      · have hj : j < i.size := by have := getElem?_some_lt hv; simp at this; omega
        rw [List.getElem?_take, if_pos hj, List.getElem?_drop] at hv
        refine h.2 (off + j) v u hv ?_
        have := agetElem?_some_lt hu
        rw [Array.getElem?_extract] at hu
        split at hu
        · exact hu
        · simp at hu
  · have ha' : isA d = false := by simpa using ha
    have hs := h1 ha'
    have hl : off < cs.length := by
      rcases Nat.lt_or_ge off cs.length with h | h
      · exact h
      · exact absurd (by rw [List.drop_eq_nil_of_le h, List.take_nil]) (hne ha')
    have hl' : off < us.size := h.1 ▸ hl
    refine ⟨us[off], ?_, d, hd, ?_⟩
    · simp [part, run_isAgg_agg P w hd, ha', hl']
    · rw [if_neg (by simp [ha'])]
      refine ⟨cs[off], ?_, h.2 off _ _ (by simp [hl]) (by simp [hl'])⟩
      rw [hs, List.drop_eq_getElem_cons hl]
      rfl

theorem eqOK_b {P : Program} {t : TypeId} (h : eqOK P .eb t = true) : P.underlying t = some .bool := by
  simp only [eqOK] at h
  split at h
  · assumption
  · simp at h
theorem eqOK_i {P : Program} {t : TypeId} (h : eqOK P .ei t = true) : ∃ k, P.underlying t = some (.int k) := by
  simp only [eqOK] at h
  split at h
  · exact ⟨_, by assumption⟩
  · simp at h
theorem eqOK_s {P : Program} {t : TypeId} (h : eqOK P .es t = true) : P.underlying t = some .string := by
  simp only [eqOK] at h
  split at h
  · assumption
  · simp at h
theorem eqOK_p {P : Program} {t : TypeId} {l : List (Nat × Nat × EqSh)} (h : eqOK P (.parts l) t = true) :
    (∃ fs, P.underlying t = some (.struct fs) ∧ P.stoodInHeld t = false ∧ eqOKF P l (fs.toList.filter fun f => decide (f.name ≠ "_")) = true) ∨
    (∃ n e i, P.underlying t = some (.array n e) ∧ P.info? e = some i ∧ i.size = P.cellsOf e ∧ l.length = n ∧ eqOKA P e i.size 0 l = true) := by
  simp only [eqOK] at h
  split at h
  · rename_i fs hu
    simp only [Bool.and_eq_true, Bool.not_eq_true'] at h
    exact .inl ⟨fs, hu, h.1, h.2⟩
  · rename_i n e hu
    split at h
    · rename_i i hi
      simp only [Bool.and_eq_true, beq_iff_eq] at h
      exact .inr ⟨n, e, i, hu, hi, h.1.1, h.1.2, h.2⟩
    · simp at h
  · simp at h

theorem eqSh_b {xs ys : List PV} {b : Bool} (h : eqSh .eb xs ys = some b) : ∃ p q, xs = [.bool p] ∧ ys = [.bool q] ∧ b = (p == q) := by
  unfold eqSh at h
  split at h <;> first | (rename_i e; simp at e; done) | skip
  · rename_i p q _
    exact ⟨p, q, rfl, rfl, by simpa using h.symm⟩
  · simp at h
theorem eqSh_i {xs ys : List PV} {b : Bool} (h : eqSh .ei xs ys = some b) : ∃ k p q, xs = [.int k p] ∧ ys = [.int k q] ∧ b = (p == q) := by
  unfold eqSh at h
  split at h <;> first | (rename_i e; simp at e; done) | skip
  · rename_i k p k' q _
    split at h
    · rename_i hk
      subst hk
      exact ⟨k, p, q, rfl, rfl, by simpa using h.symm⟩
    · simp at h
  · simp at h
theorem eqSh_s {xs ys : List PV} {b : Bool} (h : eqSh .es xs ys = some b) : ∃ p q, xs = [.str p] ∧ ys = [.str q] ∧ b = (p == q) := by
  unfold eqSh at h
  split at h <;> first | (rename_i e; simp at e; done) | skip
  · rename_i p q _
    exact ⟨p, q, rfl, rfl, by simpa using h.symm⟩
  · simp at h

theorem eqSh_ne {s : EqSh} {t : TypeId} {P : Program} {d : TypeDesc} {xs ys : List PV} {b : Bool} (hk : eqOK P s t = true) (hd : P.underlying t = some d) (ha : isA d = false) (he : eqSh s xs ys = some b) : xs ≠ [] ∧ ys ≠ [] := by
  cases s with
  | eb => obtain ⟨p, q, rfl, rfl, _⟩ := eqSh_b he; simp
  | ei => obtain ⟨k, p, q, rfl, rfl, _⟩ := eqSh_i he; simp
  | es => obtain ⟨p, q, rfl, rfl, _⟩ := eqSh_s he; simp
  | parts l =>
    rcases eqOK_p hk with ⟨fs, hu, _⟩ | ⟨n, e, i, hu, _⟩ <;> rw [hd] at hu <;> simp only [Option.some.injEq] at hu <;> subst hu <;> simp [isA] at ha

theorem Sub.scalar {P : Program} {t : TypeId} {d : TypeDesc} {v : PV} {x : Value} (h : Sub P c w t [v] x) (hd : P.underlying t = some d) (ha : isA d = false) : VRel c w v x := by
  obtain ⟨d1, hd1, hx⟩ := h
  rw [hd] at hd1
  simp only [Option.some.injEq] at hd1
  subst hd1
  rw [if_neg (by simp [ha])] at hx
  obtain ⟨p, e1, hx⟩ := hx
  simp only [List.cons.injEq, and_true] at e1
  exact e1 ▸ hx

theorem Sub.agg {P : Program} {t : TypeId} {d : TypeDesc} {cs : List PV} {x : Value} (h : Sub P c w t cs x) (hd : P.underlying t = some d) (ha : isA d = true) : ∃ us, x = .agg us ∧ LRel c w cs us := by
  obtain ⟨d1, hd1, hx⟩ := h
  rw [hd] at hd1
  simp only [Option.some.injEq] at hd1
  subst hd1
  rw [if_pos ha] at hx
  exact hx

/-- A type that has an equality: a plain one takes one cell. -/
theorem eqOK_one {P : Program} {s : EqSh} {t : TypeId} {d : TypeDesc} (hk : eqOK P s t = true) (hd : P.underlying t = some d) : isA d = true ∨ d = .bool ∨ (∃ k, d = .int k) ∨ d = .string := by
  cases s with
  | eb => have := eqOK_b hk; rw [hd] at this; simp at this; exact .inr (.inl this)
  | ei => obtain ⟨k, this⟩ := eqOK_i hk; rw [hd] at this; simp at this; exact .inr (.inr (.inl ⟨k, this⟩))
  | es => have := eqOK_s hk; rw [hd] at this; simp at this; exact .inr (.inr (.inr this))
  | parts l =>
    rcases eqOK_p hk with ⟨fs, hu, _⟩ | ⟨n, e, i, hu, _⟩ <;> rw [hd] at hu <;> simp only [Option.some.injEq] at hu <;> subst hu <;> simp [isA]

theorem eqOK_size {P : Program} {s : EqSh} {t : TypeId} {d : TypeDesc} {i : TypeInfo} (hk : eqOK P s t = true) (hd : P.underlying t = some d) (hi : P.info? t = some i) (ha : isA d = false) : i.size = 1 := by
  cases s with
  | parts l => rcases eqOK_p hk with ⟨fs, hu, _⟩ | ⟨n, e, i, hu, _⟩ <;> rw [hd] at hu <;> simp only [Option.some.injEq] at hu <;> subst hu <;> simp [isA] at ha
  | eb => have hu := eqOK_b hk; simp only [eqOK, hu, hi] at hk; simpa using hk
  | ei => obtain ⟨k, hu⟩ := eqOK_i hk; simp only [eqOK, hu, hi] at hk; simpa using hk
  | es => have hu := eqOK_s hk; simp only [eqOK, hu, hi] at hk; simpa using hk

theorem eqOK_und {P : Program} {s : EqSh} {t : TypeId} (hk : eqOK P s t = true) : ∃ d, P.underlying t = some d := by
  cases s with
  | eb => exact ⟨_, eqOK_b hk⟩
  | ei => obtain ⟨k, this⟩ := eqOK_i hk; exact ⟨_, this⟩
  | es => exact ⟨_, eqOK_s hk⟩
  | parts l => rcases eqOK_p hk with ⟨fs, hu, _⟩ | ⟨n, e, i, hu, _⟩ <;> exact ⟨_, hu⟩

mutual
theorem run_eqSh {P : Program} (s : EqSh) (t : TypeId) (d : Nat) (xs ys : List PV) (x y : Value) (b : Bool)
    (hk : eqOK P s t = true) (hdep : s.depth ≤ d) (hx : Sub P c w t xs x) (hy : Sub P c w t ys y) (he : eqSh s xs ys = some b) : (Op.equalIn (d + 1) t x y).run P w = .ok b w := by
  match s, hk, hdep, he with
  | .eb, hk, hdep, he =>
    obtain ⟨p, q, rfl, rfl, rfl⟩ := eqSh_b he
    have hd1 := eqOK_b hk
    have e1 := (hx.scalar hd1 rfl).bool_inv
    have e2 := (hy.scalar hd1 rfl).bool_inv
    subst e1 e2
    rw [run_equalIn_bool' w d t _ _ hd1]
  | .ei, hk, hdep, he =>
    obtain ⟨k, p, q, rfl, rfl, rfl⟩ := eqSh_i he
    obtain ⟨k0, hd1⟩ := eqOK_i hk
    have e1 := (hx.scalar hd1 rfl).int_inv
    have e2 := (hy.scalar hd1 rfl).int_inv
    subst e1 e2
    simp [Op.equalIn, run_underlying' P w hd1]
  | .es, hk, hdep, he =>
    obtain ⟨p, q, rfl, rfl, rfl⟩ := eqSh_s he
    have hd1 := eqOK_s hk
    obtain ⟨t1, e1, g1⟩ := (hx.scalar hd1 rfl).str_inv
    obtain ⟨t2, e2, g2⟩ := (hy.scalar hd1 rfl).str_inv
    subst e1 e2
    rw [run_equalIn_string w d t _ _ hd1, ByteArray.toList_eq, ByteArray.toList_eq, g1, g2]
  | .parts l, hk, hdep, he =>
    have hdep' : 1 ≤ d ∧ EqSh.depthL l ≤ d - 1 := by simp only [EqSh.depth] at hdep; omega
    obtain ⟨d', rfl⟩ : ∃ d', d = d' + 1 := ⟨d - 1, by omega⟩
    simp only [eqSh] at he
    rcases eqOK_p hk with ⟨fs, hd1, hst, hkk⟩ | ⟨n, e, i, hd1, hi, hsz, hlen, hkk⟩
    · obtain ⟨us, rfl, hu⟩ := hx.agg hd1 rfl
      obtain ⟨vs, rfl, hv⟩ := hy.agg hd1 rfl
      have hfs : P.fieldsOf t = fs := by simp [Program.fieldsOf, hd1]
      rw [run_equalIn_struct w (d' + 1) t us vs (by rw [hfs]; exact hd1) hst, hfs]
      exact run_eqShF l fs.toList d' xs ys us vs b hkk (by omega) hu hv he
    · obtain ⟨us, rfl, hu⟩ := hx.agg hd1 rfl
      obtain ⟨vs, rfl, hv⟩ := hy.agg hd1 rfl
      rw [run_equalIn_array w (d' + 1) us vs hd1 hi]
      have := run_eqShA l e i d' xs ys us vs 0 b hkk hi (by omega) hu hv he
      rw [List.range_eq_range', ← hlen, ← hsz]
      exact this
  termination_by (SizeOf.sizeOf s, 0)
theorem run_eqShF {P : Program} (l : List (Nat × Nat × EqSh)) (fs : List Field) (d : Nat) (xs ys : List PV) (us vs : Array Value) (b : Bool)
    (hk : eqOKF P l (fs.filter fun f => decide (f.name ≠ "_")) = true) (hdep : EqSh.depthL l ≤ d) (hu : LRel c w xs us) (hv : LRel c w ys vs) (he : eqShL l xs ys = some b) : (Op.eqFields (d + 1) us vs fs).run P w = .ok b w := by
  match fs, l, hk, hdep, he with
  | [], l, hk, hdep, he =>
    cases l with
    | nil => simp only [eqShL, Option.some.injEq] at he; simp [Op.eqFields, ← he]
    | cons p r => obtain ⟨o1, n1, s1⟩ := p; simp [eqOKF] at hk
  | f :: fs, l, hk, hdep, he =>
    by_cases hf : f.name = "_"
    · simp only [List.filter_cons, hf, ne_eq, not_true_eq_false, decide_false, Bool.false_eq_true, if_false] at hk
      have := run_eqShF l fs d xs ys us vs b hk hdep hu hv he
      simp only [Op.eqFields, hf, ne_eq, not_true_eq_false, if_false]
      exact this
    · match l, hk, hdep, he with
      | [], hk, hdep, he => simp [hf, eqOKF] at hk
      | (off, n, s) :: r, hk, hdep, he =>
        simp only [List.filter_cons, hf, ne_eq, not_false_eq_true, decide_true, if_true, eqOKF, Bool.and_eq_true, beq_iff_eq] at hk
        obtain ⟨⟨⟨hoff, hn⟩, hs⟩, hr⟩ := hk
        subst hoff
        simp only [EqSh.depthL] at hdep
        cases hi : P.info? f.type with
        | none => simp [hi] at hn
        | some i =>
          simp only [hi, Option.map_some, Option.some.injEq] at hn
          subst hn
          obtain ⟨d0, hd0⟩ := eqOK_und hs
          simp only [eqShL] at he
          have hsome : ∃ b0, eqSh s ((xs.drop f.offset).take i.size) ((ys.drop f.offset).take i.size) = some b0 := by
            split at he <;> first | exact ⟨_, by assumption⟩ | simp at he
          obtain ⟨b0, hb0⟩ := hsome
          have hone : isA d0 = false → i.size = 1 := fun ha => eqOK_size hs hd0 hi ha
          obtain ⟨x, hx, sx⟩ := run_part hu hd0 hi hone fun ha => (eqSh_ne hs hd0 ha hb0).1
          obtain ⟨y, hy, sy⟩ := run_part hv hd0 hi hone fun ha => (eqSh_ne hs hd0 ha hb0).2
          have hq := run_eqSh s f.type d _ _ x y b0 hs (by omega) sx sy hb0
          simp only [Op.eqFields, hf, ne_eq, not_false_eq_true, if_true, Sem.run_bind, hx, Result.andThen_ok, hy, hq, Sem.run_ite, Sem.run_pure]
          rw [hb0] at he
          cases b0 with
          | false => simp only [Option.some.injEq] at he; simp [← he]
          | true => simpa using run_eqShF r fs d xs ys us vs b hr (by omega) hu hv he
  termination_by (SizeOf.sizeOf l, fs.length)
theorem run_eqShA {P : Program} (l : List (Nat × Nat × EqSh)) (e : TypeId) (i : TypeInfo) (d : Nat) (xs ys : List PV) (us vs : Array Value) (j : Nat) (b : Bool)
    (hk : eqOKA P e i.size j l = true) (hi : P.info? e = some i) (hdep : EqSh.depthL l ≤ d) (hu : LRel c w xs us) (hv : LRel c w ys vs) (he : eqShL l xs ys = some b) : (Op.eqItems (d + 1) e i.size us vs (List.range' j l.length)).run P w = .ok b w := by
  match l, hk, hdep, he with
  | [], hk, hdep, he => simp only [eqShL, Option.some.injEq] at he; simp [Op.eqItems, ← he]
  | (off, n, s) :: r, hk, hdep, he =>
    simp only [eqOKA, Bool.and_eq_true, beq_iff_eq] at hk
    obtain ⟨⟨⟨hoff, hn⟩, hs⟩, hr⟩ := hk
    subst hoff hn
    simp only [EqSh.depthL] at hdep
    obtain ⟨d0, hd0⟩ := eqOK_und hs
    simp only [eqShL] at he
    have hsome : ∃ b0, eqSh s ((xs.drop (j * i.size)).take i.size) ((ys.drop (j * i.size)).take i.size) = some b0 := by
      split at he <;> first | exact ⟨_, by assumption⟩ | simp at he
    obtain ⟨b0, hb0⟩ := hsome
    have hone : isA d0 = false → i.size = 1 := fun ha => eqOK_size hs hd0 hi ha
    obtain ⟨x, hx, sx⟩ := run_part hu hd0 hi hone fun ha => (eqSh_ne hs hd0 ha hb0).1
    obtain ⟨y, hy, sy⟩ := run_part hv hd0 hi hone fun ha => (eqSh_ne hs hd0 ha hb0).2
    have hq := run_eqSh s e d _ _ x y b0 hs (by omega) sx sy hb0
    simp only [List.length_cons, List.range'_succ, Op.eqItems, Sem.run_bind, hx, Result.andThen_ok, hy, hq, Sem.run_ite, Sem.run_pure]
    rw [hb0] at he
    cases b0 with
    | false => simp only [Option.some.injEq] at he; simp [← he]
    | true => simpa using run_eqShA r e i d xs ys us vs (j + 1) b hr hi (by omega) hu hv he
  termination_by (SizeOf.sizeOf l, 0)
end

end Go.VI
