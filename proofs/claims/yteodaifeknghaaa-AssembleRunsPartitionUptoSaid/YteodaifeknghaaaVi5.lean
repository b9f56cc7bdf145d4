/- More operations of VI's that read: elements, parts of slices and strings, lengths, building. -/
import Derived.Test.YteodaifeknghaaaVi4
namespace Go.VI
variable {g : PG} {c : Ctx} {w : World} {fr fr' : Fr} {a : Act} {o : Oper} {callE : CallE} {yieldE : Nm → List PV → Heap → Option (PV × Heap)}

theorem run_indexAt_slice {P : Program} {t E : TypeId} {i : TypeInfo} (ht : P.underlying t = some (.slice E)) (hi : P.info? E = some i) (b o len cap : Nat) (k : IntKind) (j : Int) (h0 : 0 ≤ j) (hl : j < len) :
    (Instr.indexAt t (.slice (some ⟨b, o, none⟩) len cap) (.int k j)).run P w = .ok (.pointer (some ⟨b, o + j.toNat * i.size, none⟩)) w := by
  simp only [Instr.indexAt, asIntOf, Sem.run_bind, Sem.run_pure, Result.andThen_ok, run_underlying' P w ht]
  simp [h0, hl, run_sizeOf' P w hi, add_none]

theorem run_indexAt_array {P : Program} {t E : TypeId} {i : TypeInfo} {n : Nat} (ht : P.underlying t = some (.array n E)) (hi : P.info? E = some i) (b o : Nat) (k : IntKind) (j : Int) (h0 : 0 ≤ j) (hl : j < n) :
    (Instr.indexAt t (.pointer (some ⟨b, o, none⟩)) (.int k j)).run P w = .ok (.pointer (some ⟨b, o + j.toNat * i.size, none⟩)) w := by
  simp only [Instr.indexAt, asIntOf, Sem.run_bind, Sem.run_pure, Result.andThen_ok, run_underlying' P w ht, Instr.sureAddr]
  simp [h0, hl, run_sizeOf' P w hi, add_none]

/-- A slice that never changes: where its element j lies. -/
theorem vs_at {f : Fl} {L : List PV} {u : Value} (h : IRel c.imm w (.vs f L) u) {j : Nat} {e : PV} (he : L[j]? = some e) :
    ∃ b o' cap, u = .slice (some ⟨b, o', none⟩) L.length cap ∧ CellsAt (fun v x => IRel c.imm w v x) w e.cells b (o' + j * e.cells.length) ∧ (∀ k, k < e.cells.length → c.imm b) := by
  cases h with
  | vsNone => simp at he
  | vsE => simp at he
  | vs f L b o' cap sz uf hc hcap hclip hsz hcell hh =>
    have hz := hsz j e he
    have hj := getElem?_some_lt he
    refine ⟨b, o', cap, rfl, fun k cv hk => ?_, fun k hk => (hcell j k hj (hz ▸ hk)).1⟩
    have hk' := getElem?_some_lt hk
    obtain ⟨_, h2, h3⟩ := hcell j k hj (hz ▸ hk')
    exact ⟨uf j k, by rw [hz]; exact h2, h3, hh j k e cv he hk⟩

theorem ok_iaddr (h : FrRel g c w fr a) {sz : Nat} {x y : PX} {x' y' : Operand} {t E : TypeId} {i : TypeInfo} (ho : o.op = .indexAddr t x' y') (ht : g.P.underlying t = some (.slice E)) (hi : g.P.info? E = some i) (hz : i.size = sz)
    (hx : g.matchX x x' = true) (hy : g.matchX y y' = true) (hs : stepOp g.E callE yieldE o.dst (.iaddr sz x y) fr = some fr') : OpOK g c w fr fr' a o.dst ((execOp a.eval o).run g.P w) := by
  have h1 := h.x hx
  obtain ⟨u, hu⟩ : ∃ u, u = a.eval x' := ⟨_, rfl⟩
  rw [← hu] at h1
  have h2 := h.x hy
  simp only [stepOp] at hs
  split at hs
  case h_2 => simp at hs
  rename_i k j ey
  rw [ey] at h2
  have e2 := h2.int_inv
  split at hs
  case isFalse => simp at hs
  rename_i h0
  split at hs
  · rename_i fl L ex
    rw [ex] at h1
    split at hs
    case h_2 => simp at hs
    rename_i e he
    split at hs <;> simp only [Option.some.injEq, reduceCtorEq] at hs
    rename_i hsz
    subst hs
    obtain ⟨b, o', cap, e1, hc, him⟩ := vs_at h1.vs_inv he
    have hj : j < L.length := by have := getElem?_some_lt he; omega
    refine OpOK.value h _ (v := .pointer (some ⟨b, o' + j.toNat * i.size, none⟩)) ?_ ?_
    · simp [execOp, ho, ← hu, e1, e2, run_indexAt_slice ht hi b o' L.length cap k j h0 hj]
    · rw [hz, ← hsz]; exact .i _ _ (ip_of_cellsAt hc him)
  · rename_i n gg off len ex
    rw [ex] at h1
    split at hs
    case h_2 => simp at hs
    rename_i el g' cl hob
    split at hs
    case isFalse => simp at hs
    rename_i hgl
    obtain ⟨hgg, hlt⟩ := hgl
    split at hs
    case h_2 => simp at hs
    rename_i e he
    split at hs <;> simp only [Option.some.injEq, reduceCtorEq] at hs
    rename_i hsz
    subst hs
    subst hgg
    have hgen := (h.heap n _ hob).1
    obtain ⟨p, hp, hM, hc⟩ := sl_live h.heap h1 hob
    have hpz : p.sz = sz := (hM.sz _ e he).symm.trans hsz
    rcases hc with ⟨_, _, h3, _⟩ | ⟨b, hb, hl, e1⟩ | ⟨h3, _, _⟩
    · subst h3; omega
    · refine OpOK.value h _ (v := .pointer (some ⟨b, p.base + off * p.sz + j.toNat * i.size, none⟩)) ?_ ?_
      · simp [execOp, ho, ← hu, e1, e2, run_indexAt_slice ht hi b (p.base + off * p.sz) len (p.cap - off) k j h0 hlt]
      · have := VRel.ptr (c := c) (w := w) n gg (off + j.toNat) 0 p b (Nat.le_of_eq hgen.symm) hp hb
        rw [hz, ← hpz, Nat.add_assoc, ← Nat.add_mul]
        simpa using this
    · subst h3; omega
  · simp at hs

theorem ok_iaddra (h : FrRel g c w fr a) {n sz : Nat} {x y : PX} {x' y' : Operand} {t E : TypeId} {i : TypeInfo} (ho : o.op = .indexAddr t x' y') (ht : g.P.underlying t = some (.array n E)) (hi : g.P.info? E = some i) (hz : i.size = sz)
    (hx : g.matchX x x' = true) (hy : g.matchX y y' = true) (hs : stepOp g.E callE yieldE o.dst (.iaddra n sz x y) fr = some fr') : OpOK g c w fr fr' a o.dst ((execOp a.eval o).run g.P w) := by
  have h1 := h.x hx
  obtain ⟨u, hu⟩ : ∃ u, u = a.eval x' := ⟨_, rfl⟩
  rw [← hu] at h1
  have h2 := h.x hy
  simp only [stepOp] at hs
  split at hs
  case h_2 => simp at hs
  rename_i k j ey
  rw [ey] at h2
  have e2 := h2.int_inv
  split at hs
  case isFalse => simp at hs
  rename_i h0
  obtain ⟨h0, hl⟩ := h0
  split at hs
  · rename_i cs ex
    rw [ex] at h1
    split at hs <;> simp only [Option.some.injEq, reduceCtorEq] at hs
    rename_i hle
    subst hs
    obtain ⟨b, o', e1, hc, him⟩ := cellsAt_ip h1.ip_inv
    refine OpOK.value h _ (v := .pointer (some ⟨b, o' + j.toNat * i.size, none⟩)) ?_ ?_
    · simp [execOp, ho, ← hu, e1, e2, run_indexAt_array ht hi b o' k j h0 hl]
    · rw [hz]
      exact .i _ _ (ip_of_cellsAt (hc.drop _) fun q hq => him (j.toNat * sz + q) (by simp at hq; omega))
  · rename_i nm gg e off ex
    rw [ex] at h1
    split at hs
    case h_2 => simp at hs
    rename_i el g' cl hob
    split at hs <;> simp only [Option.some.injEq, reduceCtorEq] at hs
    rename_i hgg
    subst hs
    subst hgg
    have hgen := (h.heap nm _ hob).1
    obtain ⟨p, b, hp, hb, e1, hM⟩ := ptr_live h.heap h1 hob
    refine OpOK.value h _ (v := .pointer (some ⟨b, p.base + e * p.sz + off + j.toNat * i.size, none⟩)) ?_ ?_
    · simp [execOp, ho, ← hu, e1, e2, run_indexAt_array ht hi b (p.base + e * p.sz + off) k j h0 hl]
    · rw [hz, Nat.add_assoc]
      exact .ptr nm gg e (off + j.toNat * sz) p b (Nat.le_of_eq hgen.symm) hp hb
  · simp at hs

theorem ok_idxs (h : FrRel g c w fr a) {x y : PX} {x' y' : Operand} {t : TypeId} (ho : o.op = .index t x' y') (ht : g.P.underlying t = some .string)
    (hx : g.matchX x x' = true) (hy : g.matchX y y' = true) (hs : stepOp g.E callE yieldE o.dst (.idxs x y) fr = some fr') : OpOK g c w fr fr' a o.dst ((execOp a.eval o).run g.P w) := by
  have h1 := h.x hx
  have h2 := h.x hy
  simp only [stepOp] at hs
  split at hs
  case h_2 => simp at hs
  rename_i k j s ey ex
  rw [ex] at h1
  rw [ey] at h2
  have e2 := h2.int_inv
  obtain ⟨t1, f1, g1⟩ := h1.str_inv
  split at hs
  case isFalse => simp at hs
  rename_i h0
  split at hs <;> simp only [Option.some.injEq, reduceCtorEq] at hs
  rename_i b hb
  subst hs
  have hb' : t1[j.toNat]? = some b := by
    rw [← g1] at hb
    have hl : j.toNat < t1.size := by have := getElem?_some_lt hb; simpa using this
    simp only [Array.getElem?_toList] at hb
    show (if h : j.toNat < t1.size then some t1[j.toNat] else none) = some b
    rw [dif_pos hl]
    have hl' : j.toNat < t1.data.size := hl
    rw [Array.getElem?_eq_getElem hl'] at hb
    exact hb
  refine OpOK.value h _ (v := .int .u8 b.toNat) ?_ (.i _ _ (.int _ _))
  simp [execOp, ho, f1, e2, Instr.index, asIntOf, run_underlying' g.P w ht, h0, hb']

theorem ok_lenl (h : FrRel g c w fr a) {x : PX} {x' : Operand} {t E : TypeId} {ty : Array TypeId} (ho : o.op = .call { callee := .builtin .len, args := #[x'], argTypes := ty }) (hty : ty[0]? = some t)
    (ht : g.P.underlying t = some (.slice E)) (hx : g.matchX x x' = true) (hs : stepOp g.E callE yieldE o.dst (.lenl x) fr = some fr') : OpOK g c w fr fr' a o.dst ((execOp a.eval o).run g.P w) := by
  have h1 := h.x hx
  obtain ⟨u, hu⟩ : ∃ u, u = a.eval x' := ⟨_, rfl⟩
  rw [← hu] at h1
  simp only [stepOp] at hs
  split at hs <;> simp only [Option.some.injEq, reduceCtorEq] at hs
  rename_i n hn
  subst hs
  have key : ∃ b cap, u = .slice b n cap := by
    unfold lenOf at hn
    split at hn
    · rename_i fl L ex
      simp only [Option.some.injEq] at hn
      rw [ex] at h1
      have h2 := h1.vs_inv
      subst hn
      cases h2 with
      | vsNone => exact ⟨_, _, rfl⟩
      | vsE => exact ⟨_, _, rfl⟩
      | vs => exact ⟨_, _, rfl⟩
    · rename_i nm gg off len ex
      split at hn
      case h_2 => simp at hn
      rename_i el g' cl hob
      split at hn <;> simp only [Option.some.injEq, reduceCtorEq] at hn
      rename_i hgg
      subst hgg
      subst hn
      rw [ex] at h1
      obtain ⟨p, hp, hM, hc⟩ := sl_live h.heap h1 hob
      rcases hc with ⟨_, _, h3, e⟩ | ⟨b, hb, hl, e1⟩ | ⟨h3, _, x, e⟩
      · subst h3; exact ⟨_, _, e⟩
      · exact ⟨_, _, e1⟩
      · subst h3; exact ⟨_, _, e⟩
    · simp at hn
  obtain ⟨b, cap, e⟩ := key
  refine OpOK.value h _ (v := .int .i64 n) ?_ (.i _ _ (.int _ _))
  simp [execOp, ho, ← hu, e, resolve, invoke, builtin, Builtin.len_, hty, run_underlying' g.P _ ht, goInt]

theorem ok_capl (h : FrRel g c w fr a) {x : PX} {x' : Operand} {t E : TypeId} {ty : Array TypeId} (ho : o.op = .call { callee := .builtin .cap, args := #[x'], argTypes := ty }) (hty : ty[0]? = some t)
    (ht : g.P.underlying t = some (.slice E)) (hx : g.matchX x x' = true) (hs : stepOp g.E callE yieldE o.dst (.capl x) fr = some fr') : OpOK g c w fr fr' a o.dst ((execOp a.eval o).run g.P w) := by
  have h1 := h.x hx
  obtain ⟨u, hu⟩ : ∃ u, u = a.eval x' := ⟨_, rfl⟩
  rw [← hu] at h1
  simp only [stepOp] at hs
  split at hs
  case h_2 => simp at hs
  rename_i fl L ex
  split at hs <;> simp only [Option.some.injEq, reduceCtorEq] at hs
  rename_i hf
  subst hs
  rw [ex] at h1
  have h2 := h1.vs_inv
  have key : ∃ b n, u = .slice b n L.length := by
    cases h2 with
    | vsNone => exact ⟨_, _, rfl⟩
    | vsE => exact ⟨_, _, rfl⟩
    | vs fl L b o' cap sz uf hc hcap hclip =>
      have : fl = .clip := by cases fl <;> simp_all [Fl.full]
      rw [hclip this]
      exact ⟨_, _, rfl⟩
  obtain ⟨b, n, e⟩ := key
  refine OpOK.value h _ (v := .int .i64 L.length) ?_ (.i _ _ (.int _ _))
  simp [execOp, ho, ← hu, e, resolve, invoke, builtin, Builtin.cap_, hty, run_underlying' g.P _ ht, goInt]

theorem foldO_max {P : Program} : ∀ {l : List PV} {us : List Value} {v v' : PV} {u : Value}, l.length = us.length → (∀ (i : Nat) x y, l[i]? = some x → us[i]? = some y → VRel c w x y) → VRel c w v u → foldO maxI v l = some v' →
    ∃ u', (us.foldlM Builtin.max2 u).run P w = .ok u' w ∧ VRel c w v' u'
  | [], [], v, v', u, _, _, hv, hf => by
    simp only [foldO, Option.some.injEq] at hf
    exact ⟨u, by simp, hf ▸ hv⟩
  | x :: r, y :: s, v, v', u, hl, hr, hv, hf => by
    simp only [foldO] at hf
    split at hf
    case h_2 => simp at hf
    rename_i z hz
    have hx := hr 0 x y rfl rfl
    unfold maxI at hz
    split at hz
    case h_2 => simp at hz
    rename_i k m k' n
    split at hz <;> simp only [Option.some.injEq, reduceCtorEq] at hz
    rename_i hk
    subst hk
    have e1 := hv.int_inv
    have e2 := hx.int_inv
    subst e1 e2
    have := foldO_max (P := P) (by simpa using hl) (fun i a b ha hb => hr (i + 1) a b (by simpa using ha) (by simpa using hb)) (show VRel c w z (.int k (if n > m then n else m)) from hz ▸ .i _ _ (.int _ _)) hf
    obtain ⟨u', h1, h2⟩ := this
    refine ⟨u', ?_, h2⟩
    simpa [List.foldlM_cons, Builtin.max2] using h1
  | [], _ :: _, v, v', u, hl, _, _, _ => by simp at hl
  | _ :: _, [], v, v', u, hl, _, _, _ => by simp at hl

theorem foldO_min {P : Program} : ∀ {l : List PV} {us : List Value} {v v' : PV} {u : Value}, l.length = us.length → (∀ (i : Nat) x y, l[i]? = some x → us[i]? = some y → VRel c w x y) → VRel c w v u → foldO minI v l = some v' →
    ∃ u', (us.foldlM Builtin.min2 u).run P w = .ok u' w ∧ VRel c w v' u'
  | [], [], v, v', u, _, _, hv, hf => by
    simp only [foldO, Option.some.injEq] at hf
    exact ⟨u, by simp, hf ▸ hv⟩
  | x :: r, y :: s, v, v', u, hl, hr, hv, hf => by
    simp only [foldO] at hf
    split at hf
    case h_2 => simp at hf
    rename_i z hz
    have hx := hr 0 x y rfl rfl
    unfold minI at hz
    split at hz
    case h_2 => simp at hz
    rename_i k m k' n
    split at hz <;> simp only [Option.some.injEq, reduceCtorEq] at hz
    rename_i hk
    subst hk
    have e1 := hv.int_inv
    have e2 := hx.int_inv
    subst e1 e2
    have := foldO_min (P := P) (by simpa using hl) (fun i a b ha hb => hr (i + 1) a b (by simpa using ha) (by simpa using hb)) (show VRel c w z (.int k (if n < m then n else m)) from hz ▸ .i _ _ (.int _ _)) hf
    obtain ⟨u', h1, h2⟩ := this
    refine ⟨u', ?_, h2⟩
    simpa [List.foldlM_cons, Builtin.min2] using h1
  | [], _ :: _, v, v', u, hl, _, _, _ => by simp at hl
  | _ :: _, [], v, v', u, hl, _, _, _ => by simp at hl

theorem ok_mx (h : FrRel g c w fr a) {x : PX} {r : List PX} {x' : Operand} {r' : Array Operand} {ty : Array TypeId} {ar : Array Operand} (ho : o.op = .call { callee := .builtin .max, args := ar, argTypes := ty }) (har : ar.toList = x' :: r'.toList)
    (hx : g.matchX x x' = true) (hr : g.matchXs r r'.toList = true) (hs : stepOp g.E callE yieldE o.dst (.mx x r) fr = some fr') : OpOK g c w fr fr' a o.dst ((execOp a.eval o).run g.P w) := by
  simp only [stepOp] at hs
  split at hs <;> simp only [Option.some.injEq, reduceCtorEq] at hs
  rename_i v hv
  subst hs
  obtain ⟨hl, hrel⟩ := h.xs hr
  obtain ⟨u, h1, h2⟩ := foldO_max (P := g.P) (by simpa using hl) hrel (h.x hx) hv
  refine OpOK.value h _ (v := u) ?_ h2
  have hb : (Builtin.max_ ty o.type (ar.map a.eval)).run g.P w = .ok u w := by
    have : (ar.map a.eval).toList = a.eval x' :: r'.toList.map a.eval := by simp [har]
    simp only [Builtin.max_, this]
    exact h1
  simp [execOp, ho, resolve, invoke, builtin, hb]

theorem ok_mn (h : FrRel g c w fr a) {x : PX} {r : List PX} {x' : Operand} {r' : Array Operand} {ty : Array TypeId} {ar : Array Operand} (ho : o.op = .call { callee := .builtin .min, args := ar, argTypes := ty }) (har : ar.toList = x' :: r'.toList)
    (hx : g.matchX x x' = true) (hr : g.matchXs r r'.toList = true) (hs : stepOp g.E callE yieldE o.dst (.mn x r) fr = some fr') : OpOK g c w fr fr' a o.dst ((execOp a.eval o).run g.P w) := by
  simp only [stepOp] at hs
  split at hs <;> simp only [Option.some.injEq, reduceCtorEq] at hs
  rename_i v hv
  subst hs
  obtain ⟨hl, hrel⟩ := h.xs hr
  obtain ⟨u, h1, h2⟩ := foldO_min (P := g.P) (by simpa using hl) hrel (h.x hx) hv
  refine OpOK.value h _ (v := u) ?_ h2
  have hb : (Builtin.min_ ty o.type (ar.map a.eval)).run g.P w = .ok u w := by
    have : (ar.map a.eval).toList = a.eval x' :: r'.toList.map a.eval := by simp [har]
    simp only [Builtin.min_, this]
    exact h1
  simp [execOp, ho, resolve, invoke, builtin, hb]

end Go.VI
