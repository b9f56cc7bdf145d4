/- The operations of VI's that read memory. -/
import Derived.Test.YteodaifeknghaaaVi3
import Derived.Laws.Cells
namespace Go.VI
variable {g : PG} {c : Ctx} {w : World} {fr fr' : Fr} {a : Act} {o : Oper} {callE : CallE} {yieldE : Nm → List PV → Heap → Option (PV × Heap)}

theorem add_none (b o n : Nat) : (⟨b, o, none⟩ : Addr).add n = ⟨b, o + n, none⟩ := by
  unfold Addr.add
  split
  · rename_i h; subst h; rfl
  · rfl

def isA : TypeDesc → Bool
  | .struct _ => true
  | .array _ _ => true
  | _ => false

/-- Is k how a variable of the type lies? -/
def kOK (P : Program) (t : TypeId) (k : Option Nat) : Bool :=
  match P.underlying t, P.info? t with
  | some d, some i => if isA d then k == some i.size else k == none && i.size == 1
  | _, _ => false

/-- Cells that lie one behind the other. -/
def CellsAt (R : PV → Value → Prop) (w : World) (cs : List PV) (b o : Nat) : Prop :=
  ∀ (j : Nat) cv, cs[j]? = some cv → ∃ u, w.cell? ⟨b, o + j, none⟩ = some u ∧ u.oneCell' = true ∧ R cv u

theorem CellsAt.drop {R : PV → Value → Prop} {cs : List PV} {b o : Nat} (h : CellsAt R w cs b o) (k : Nat) : CellsAt R w (cs.drop k) b (o + k) := by
  intro j cv hj
  obtain ⟨u, h1, h2⟩ := h (k + j) cv (by simpa [List.getElem?_drop] using hj)
  exact ⟨u, by rw [Nat.add_assoc]; exact h1, h2⟩

theorem run_isAgg_agg (P : Program) {t : TypeId} {d : TypeDesc} (w : World) (h : P.underlying t = some d) : (isAgg t).run P w = .ok (isA d) w := by
  simp only [isAgg, Sem.run_bind, run_underlying' P w h, Result.andThen_ok]
  cases d <;> rfl

theorem run_sizeOf' (P : Program) {t : TypeId} {i : TypeInfo} (w : World) (h : P.info? t = some i) : (sizeOf t).run P w = .ok i.size w := by
  simp [sizeOf, typeInfo, h]

theorem choose_cells {R : PV → Value → Prop} {cs : List PV} {b o n : Nat} (h : CellsAt R w cs b o) (hn : n ≤ cs.length) :
    ∃ f : Nat → Value, (∀ j, j < n → w.cell? ⟨b, o + j, none⟩ = some (f j)) ∧ (∀ j, j < n → (f j).oneCell' = true) ∧ ∀ j cv, j < n → cs[j]? = some cv → R cv (f j) := by
  have : ∀ j, ∃ u, j < n → w.cell? ⟨b, o + j, none⟩ = some u ∧ u.oneCell' = true ∧ ∀ cv, cs[j]? = some cv → R cv u := by
    intro j
    by_cases hj : j < n
    · have hl : j < cs.length := by omega
      obtain ⟨u, h1, h2, h3⟩ := h j cs[j] (by simp [hl])
      exact ⟨u, fun _ => ⟨h1, h2, fun cv hcv => by simp [hl] at hcv; exact hcv ▸ h3⟩⟩
    · exact ⟨undef, fun x => absurd x hj⟩
  refine ⟨fun j => (this j).choose, fun j hj => ((this j).choose_spec hj).1, fun j hj => ((this j).choose_spec hj).2.1, fun j cv hj hc => ((this j).choose_spec hj).2.2 cv hc⟩

/-- What is loaded from cells. -/
theorem run_loadFrom {R : PV → Value → Prop} {V : PV → Value → Prop} {P : Program} {t : TypeId} {k : Option Nat} {cs : List PV} {b o : Nat} {v : PV} (h : CellsAt R w cs b o) (hk : kOK P t k = true) (hv : loadFrom cs k = some v)
    (hR : ∀ cv u, R cv u → V cv u)
    (hA : ∀ (l : List PV) (us : Array Value), l.length = us.size → (∀ (i : Nat) u, us[i]? = some u → u.oneCell' = true) → (∀ (i : Nat) cv u, l[i]? = some cv → us[i]? = some u → R cv u) → V (.agg l) (.agg us)) :
    ∃ u, (loadVar t ⟨b, o, none⟩).run P w = .ok u w ∧ V v u ∧ (k = none → u.oneCell' = true) := by
  have agg : ∀ (i : TypeInfo) (d : TypeDesc), P.underlying t = some d → P.info? t = some i → isA d = true → k = some i.size → ∃ u, (loadVar t ⟨b, o, none⟩).run P w = .ok u w ∧ V v u ∧ (k = none → u.oneCell' = true) := by
    intro i d hu hi hd hks
    subst hks
    simp only [loadFrom] at hv
    split at hv <;> simp only [Option.some.injEq, reduceCtorEq] at hv
    rename_i hl
    obtain ⟨f, h1, h2, h3⟩ := choose_cells h hl
    have hrun := run_loadCells (P := P) (w := w) ⟨b, o, none⟩ i.size f (fun j hj => by rw [add_none]; exact h1 j hj)
    refine ⟨.agg ((List.range i.size).map f).toArray, ?_, ?_, by simp⟩
    · simp only [loadVar, Sem.run_bind, run_isAgg_agg P w hu, hd, Result.andThen_ok, if_true, run_sizeOf' P w hi, hrun, Sem.run_pure]
    · rw [← hv]
      refine hA _ _ (by simp [hl]) (fun j u hu => ?_) (fun j cv u hc hu => ?_)
      · have hj : j < i.size := by have := agetElem?_some_lt hu; simpa using this
        simp [hj] at hu
        exact hu ▸ h2 j hj
      · have hj : j < i.size := by have := agetElem?_some_lt hu; simpa using this
        simp [hj] at hu
        rw [List.getElem?_take, if_pos hj] at hc
        exact hu ▸ h3 j cv hj hc
  unfold kOK at hk
  split at hk
  · rename_i d i hu hi
    split at hk
    · rename_i hd
      exact agg _ _ hu hi hd (by simpa using hk)
    · rename_i hd
      simp only [Bool.and_eq_true, beq_iff_eq] at hk
      obtain ⟨hkn, _⟩ := hk
      subst hkn
      simp only [loadFrom] at hv
      obtain ⟨u, h1, h2, h3⟩ := h 0 v (by rw [← List.head?_eq_getElem?]; exact hv)
      refine ⟨u, ?_, hR _ _ h3, fun _ => h2⟩
      simp only [Nat.add_zero] at h1
      simp only [loadVar, Sem.run_bind, run_isAgg_agg P w hu, hd, Result.andThen_ok, Bool.false_eq_true, if_false, run_load, h1]
  · simp at hk

theorem loadFrom_v {P : Program} {t : TypeId} {k : Option Nat} {cs : List PV} {b o : Nat} {v : PV} (h : CellsAt (VRel c w) w cs b o) (hk : kOK P t k = true) (hv : loadFrom cs k = some v) :
    ∃ u, (loadVar t ⟨b, o, none⟩).run P w = .ok u w ∧ VRel c w v u :=
  let ⟨u, h1, h2, _⟩ := run_loadFrom (V := VRel c w) h hk hv (fun _ _ h => h) (fun l us h1 h2 h3 => .agg l us h1 h2 h3)
  ⟨u, h1, h2⟩

theorem cellsAt_ip {cs : List PV} {u : Value} (h : IRel c.imm w (.ip cs) u) : ∃ b o, u = .pointer (some ⟨b, o, none⟩) ∧ CellsAt (fun v x => IRel c.imm w v x) w cs b o ∧ ∀ j, j < cs.length → c.imm b := by
  cases h with
  | ip cs b o uf hcell hh =>
    refine ⟨b, o, rfl, fun j cv hj => ?_, fun j hj => (hcell j hj).1⟩
    obtain ⟨_, h2, h3⟩ := hcell j (getElem?_some_lt hj)
    exact ⟨uf j, h2, h3, hh j cv hj⟩

theorem ip_of_cellsAt {cs : List PV} {b o : Nat} (h : CellsAt (fun v x => IRel c.imm w v x) w cs b o) (hi : ∀ j, j < cs.length → c.imm b) : IRel c.imm w (.ip cs) (.pointer (some ⟨b, o, none⟩)) := by
  obtain ⟨f, h1, h2, h3⟩ := choose_cells h (Nat.le_refl _)
  exact .ip cs b o f (fun j hj => ⟨hi j hj, h1 j hj, h2 j hj⟩) (fun j cv hj => h3 j cv (getElem?_some_lt hj) hj)

theorem CellsAt.mono {R R' : PV → Value → Prop} {cs : List PV} {b o : Nat} (h : CellsAt R w cs b o) (hr : ∀ v u, R v u → R' v u) : CellsAt R' w cs b o :=
  fun j cv hj => let ⟨u, h1, h2, h3⟩ := h j cv hj; ⟨u, h1, h2, hr _ _ h3⟩

theorem MemRel.cellsAt {p : Place} {el : List PV} {cl : Bool} {osz : Nat} (h : MemRel c w p el cl osz) {b i : Nat} {e : PV} (hb : p.blk = some b) (he : el[i]? = some e) : CellsAt (CRel cl c w) w e.cells b (p.base + i * p.sz) := by
  intro j cv hj
  obtain ⟨arr, E, h1, h2, h3⟩ := h.row b hb
  obtain ⟨u, h4, h5, h6⟩ := h3 i j e cv he hj
  exact ⟨u, by simp [World.cell?, h1, h4], h5, h6⟩

/-- A pointer whose generation is the object's leads into it. -/
theorem ptr_live {n : Nm} {gg i off : Nat} {u : Value} {el : List PV} {cl : Bool} {osz : Nat} (hH : HRel g.MC c fr.heap w) (hv : VRel c w (.ptr n gg i off) u) (ho : hget fr.heap n = some (.mem el gg cl osz)) :
    ∃ p b, c.obj n = some p ∧ p.blk = some b ∧ u = .pointer (some ⟨b, p.base + i * p.sz + off, none⟩) ∧ MemRel c w p el cl osz := by
  obtain ⟨h1, h2⟩ := hH n _ ho
  cases hv with
  | i _ _ h => cases h
  | ptrStale _ _ _ _ _ hlt => omega
  | ptr _ _ _ _ p b hg hp hb => exact ⟨p, b, hp, hb, rfl, h2 p hp⟩

/-- A slice whose generation is the object's. -/
theorem sl_live {n : Nm} {gg off len : Nat} {u : Value} {el : List PV} {cl : Bool} {osz : Nat} (hH : HRel g.MC c fr.heap w) (hv : VRel c w (.sl n gg off len) u) (ho : hget fr.heap n = some (.mem el gg cl osz)) :
    ∃ p, c.obj n = some p ∧ MemRel c w p el cl osz ∧ ((p.blk = none ∧ off = 0 ∧ len = 0 ∧ u = .slice none 0 0) ∨ (∃ b, p.blk = some b ∧ off + len ≤ p.cap ∧ u = .slice (some ⟨b, p.base + off * p.sz, none⟩) len (p.cap - off)) ∨ (len = 0 ∧ off = p.cap ∧ ∃ A, u = .slice (some A) 0 0)) := by
  obtain ⟨h1, h2⟩ := hH n _ ho
  cases hv with
  | i _ _ h => cases h
  | slStale _ _ _ _ _ hlt => omega
  | slNil _ _ p hg hp hb => exact ⟨p, hp, h2 p hp, .inl ⟨hb, rfl, rfl, rfl⟩⟩
  | sl _ _ _ _ p b hg hp hb hl => exact ⟨p, hp, h2 p hp, .inr (.inl ⟨b, hb, hl, rfl⟩)⟩
  | slE _ _ _ p A hg hp hl => exact ⟨p, hp, h2 p hp, .inr (.inr ⟨rfl, hl, A, rfl⟩)⟩

theorem ok_load (h : FrRel g c w fr a) {k : Option Nat} {x : PX} {x' : Operand} {t : TypeId} (ho : o.op = .load t x') (hk : kOK g.P t k = true) (hx : g.matchX x x' = true)
    (hs : stepOp g.E callE yieldE o.dst (.load k x) fr = some fr') : OpOK g c w fr fr' a o.dst ((execOp a.eval o).run g.P w) := by
  have h1 := h.x hx
  obtain ⟨u, hu⟩ : ∃ u, u = a.eval x' := ⟨_, rfl⟩
  rw [← hu] at h1
  have fin : ∀ {cs : List PV} {b o' : Nat} {v : PV}, u = .pointer (some ⟨b, o', none⟩) → CellsAt (VRel c w) w cs b o' → loadFrom cs k = some v →
      OpOK g c w fr (fr.put o.dst v) a o.dst ((execOp a.eval o).run g.P w) := by
    intro cs b o' v e hc hl
    obtain ⟨r, hr, hv⟩ := loadFrom_v hc hk hl
    refine OpOK.value h _ (v := r) ?_ hv
    simp [execOp, ho, ← hu, e, Instr.loadAt, Instr.sureAddr, hr]
  simp only [stepOp] at hs
  split at hs
  · rename_i cs e
    split at hs <;> simp only [Option.some.injEq, reduceCtorEq] at hs
    rename_i v hv
    subst hs
    rw [e] at h1
    obtain ⟨b, o', e1, hc, _⟩ := cellsAt_ip h1.ip_inv
    exact fin e1 (hc.mono fun _ _ h => .i _ _ h) hv
  · rename_i n gg i off e
    split at hs
    case h_2 => simp at hs
    rename_i el g' cl hob
    split at hs
    case isFalse => simp at hs
    rename_i hgg
    split at hs
    case h_2 => simp at hs
    rename_i e' he'
    split at hs <;> simp only [Option.some.injEq, reduceCtorEq] at hs
    rename_i v hv
    subst hs
    rw [e] at h1
    subst hgg
    obtain ⟨p, b, hp, hb, e1, hM⟩ := ptr_live h.heap h1 hob
    refine fin e1 ?_ hv
    exact ((hM.cellsAt hb he').drop off).mono fun _ _ h => h.v
  · simp at hs

theorem ok_faddr (h : FrRel g c w fr a) {off fi : Nat} {x : PX} {x' : Operand} {t : TypeId} {fs : Array Field} {f : Field} {i : TypeInfo} (ho : o.op = .fieldAddr t x' fi) (hu : g.P.underlying t = some (.struct fs)) (hf : fs[fi]? = some f)
    (hi : g.P.info? f.type = some i) (hz : i.size ≠ 0) (hoff : f.offset = off) (hx : g.matchX x x' = true)
    (hs : stepOp g.E callE yieldE o.dst (.faddr off x) fr = some fr') : OpOK g c w fr fr' a o.dst ((execOp a.eval o).run g.P w) := by
  have h1 := h.x hx
  obtain ⟨u, hu'⟩ : ∃ u, u = a.eval x' := ⟨_, rfl⟩
  rw [← hu'] at h1
  have run : ∀ {b o' : Nat}, u = .pointer (some ⟨b, o', none⟩) → (execOp a.eval o).run g.P w = .ok (.value (.pointer (some ⟨b, o' + off, none⟩))) w := by
    intro b o' e
    simp [execOp, ho, ← hu', e, Instr.fieldAt, run_underlying' g.P w hu, hf, Instr.sureAddr, fieldPlace, run_sizeOf' g.P w hi, hz, add_none, hoff]
  simp only [stepOp] at hs
  split at hs
  · rename_i cs e
    split at hs <;> simp only [Option.some.injEq, reduceCtorEq] at hs
    rename_i hle
    subst hs
    rw [e] at h1
    obtain ⟨b, o', e1, hc, him⟩ := cellsAt_ip h1.ip_inv
    refine OpOK.value h _ (run e1) (.i _ _ (ip_of_cellsAt (hc.drop off) fun j hj => him (off + j) (by simp at hj; omega)))
  · rename_i n gg i' off' e
    split at hs
    case h_2 => simp at hs
    rename_i el g' cl hob
    split at hs <;> simp only [Option.some.injEq, reduceCtorEq] at hs
    rename_i hgg
    subst hs
    rw [e] at h1
    subst hgg
    have hgen := (h.heap n _ hob).1
    obtain ⟨p, b, hp, hb, e1, hM⟩ := ptr_live h.heap h1 hob
    refine OpOK.value h _ (run e1) ?_
    rw [Nat.add_assoc]
    exact .ptr n gg i' (off' + off) p b (Nat.le_of_eq hgen.symm) hp hb
  · simp at hs

end Go.VI
