/- Parts of structs, arrays, strings and slices; building. -/
import Derived.Test.YteodaifeknghaaaVi7
namespace Go.VI
variable {g : PG} {c : Ctx} {w : World} {fr fr' : Fr} {a : Act} {o : Oper} {callE : CallE} {yieldE : Nm → List PV → Heap → Option (PV × Heap)}

/-- A part of a struct's or an array's value. -/
theorem part_loadFrom {P : Program} {t : TypeId} {k : Option Nat} {cs : List PV} {us : Array Value} {off : Nat} {v : PV} (h : LRel c w cs us) (h1 : ∀ (i : Nat) x, us[i]? = some x → x.oneCell' = true) (hk : kOK P t k = true) (hv : loadFrom (cs.drop off) k = some v) :
    ∃ u, (part t us off).run P w = .ok u w ∧ VRel c w v u := by
  unfold kOK at hk
  split at hk
  case h_2 => simp at hk
  rename_i d i hd hi
  split at hk
  · rename_i ha
    have hks : k = some i.size := by simpa using hk
    subst hks
    simp only [loadFrom] at hv
    split at hv <;> simp only [Option.some.injEq, reduceCtorEq] at hv
    rename_i hl
    refine ⟨.agg (us.extract off (off + i.size)), ?_, ?_⟩
    · simp [part, run_isAgg_agg P w hd, ha, run_sizeOf' P w hi]
    · rw [← hv]
      have hz := h.1
      refine .agg _ _ (by simp at hl ⊢; omega) (fun j x hx => ?_) (fun j cv x hc hx => ?_)
      · rw [Array.getElem?_extract] at hx
        split at hx
        · exact h1 _ x hx
        · simp at hx
      · rw [Array.getElem?_extract] at hx
        split at hx
        · have hj : j < i.size := by have := getElem?_some_lt hc; simp at this; omega
          rw [List.getElem?_take, if_pos hj, List.getElem?_drop] at hc
          exact h.2 _ cv x hc hx
        · simp at hx
  · rename_i ha
    simp only [Bool.and_eq_true, beq_iff_eq] at hk
    obtain ⟨hkn, _⟩ := hk
    subst hkn
    simp only [loadFrom] at hv
    rw [List.head?_eq_getElem?, List.getElem?_drop, Nat.add_zero] at hv
    have hl : off < us.size := h.1 ▸ getElem?_some_lt hv
    have ha' : isA d = false := by simpa using ha
    refine ⟨us[off], ?_, h.2 off v _ hv (by simp [hl])⟩
    simp [part, run_isAgg_agg P w hd, ha', hl]

theorem ok_fld (h : FrRel g c w fr a) {off fi : Nat} {k : Option Nat} {x : PX} {x' : Operand} {t : TypeId} {fs : Array Field} {f : Field} (ho : o.op = .field t x' fi) (hu : g.P.underlying t = some (.struct fs)) (hf : fs[fi]? = some f)
    (hk : kOK g.P f.type k = true) (hoff : f.offset = off) (hx : g.matchX x x' = true)
    (hs : stepOp g.E callE yieldE o.dst (.fld off k x) fr = some fr') : OpOK g c w fr fr' a o.dst ((execOp a.eval o).run g.P w) := by
  have h1 := h.x hx
  simp only [stepOp] at hs
  split at hs
  case h_2 => simp at hs
  rename_i cs e
  split at hs <;> simp only [Option.some.injEq, reduceCtorEq] at hs
  rename_i v hv
  subst hs
  rw [e] at h1
  obtain ⟨us, e1, hl, hone, hr⟩ := h1.agg_inv
  obtain ⟨u, hrun, hrel⟩ := part_loadFrom ⟨hl, hr⟩ hone hk hv
  refine OpOK.value h _ (v := u) ?_ hrel
  simp [execOp, ho, e1, Instr.field, run_underlying' g.P w hu, hf, asAgg, hoff, hrun]

theorem ok_idx (h : FrRel g c w fr a) {n sz : Nat} {k : Option Nat} {x y : PX} {x' y' : Operand} {t E : TypeId} {i : TypeInfo} (ho : o.op = .index t x' y') (hu : g.P.underlying t = some (.array n E)) (hi : g.P.info? E = some i) (hz : i.size = sz)
    (hk : kOK g.P E k = true) (hx : g.matchX x x' = true) (hy : g.matchX y y' = true)
    (hs : stepOp g.E callE yieldE o.dst (.idx n sz k x y) fr = some fr') : OpOK g c w fr fr' a o.dst ((execOp a.eval o).run g.P w) := by
  have h1 := h.x hx
  have h2 := h.x hy
  simp only [stepOp] at hs
  split at hs
  case h_2 => simp at hs
  rename_i kk j ey
  rw [ey] at h2
  have e2 := h2.int_inv
  split at hs
  case isFalse => simp at hs
  rename_i h0
  split at hs
  case h_2 => simp at hs
  rename_i cs e
  split at hs
  case isFalse => simp at hs
  rename_i hlen
  split at hs <;> simp only [Option.some.injEq, reduceCtorEq] at hs
  rename_i v hv
  subst hs
  rw [e] at h1
  obtain ⟨us, e1, hl, hone, hr⟩ := h1.agg_inv
  obtain ⟨u, hrun, hrel⟩ := part_loadFrom ⟨hl, hr⟩ hone hk hv
  refine OpOK.value h _ (v := u) ?_ hrel
  simp [execOp, ho, e1, e2, Instr.index, asIntOf, run_underlying' g.P w hu, h0.1, h0.2, run_sizeOf' g.P w hi, hz, hrun]

theorem bound_inv {v : PV} {y n : Nat} {u : Value} (h : bound v y = some n) (hv : VRel c w v u) : ∃ k i, u = .int k i ∧ 0 ≤ i ∧ i ≤ y ∧ n = i.toNat := by
  unfold bound at h
  split at h
  · rename_i k i
    split at h <;> simp only [Option.some.injEq, reduceCtorEq] at h
    rename_i hc
    exact ⟨k, i, hv.int_inv, hc.1, hc.2, h.symm⟩
  · simp at h

theorem run_bound {P : Program} {v : PV} {y n : Nat} {u : Value} {code : BoundsCode} (h : bound v y = some n) (hv : VRel c w v u) : (Instr.sliceBound u y code).run P w = .ok n w := by
  obtain ⟨k, i, rfl, h0, h1, rfl⟩ := bound_inv h hv
  simp [Instr.sliceBound, asIntOf, h0, h1]

def PG.matchO (g : PG) : Option PX → Option Operand → Bool
  | none, none => true
  | some x, some y => g.matchX x y
  | _, _ => false

theorem bound_le {v : PV} {y n : Nat} (h : bound v y = some n) : n ≤ y := by
  unfold bound at h
  split at h
  · split at h <;> simp only [Option.some.injEq, reduceCtorEq] at h
    omega
  · simp at h

theorem run_bounds (h : FrRel g c w fr a) {isS : Bool} {len cap : Nat} {lo hi mx : Option PX} {lo' hi' mx' : Option Operand} (h1 : g.matchO lo lo' = true) (h2 : g.matchO hi hi' = true) (h3 : g.matchO mx mx' = true) {l m n : Nat}
    (hb : boundsE g.E fr.tmps len cap lo hi mx = some (l, m, n)) : (Instr.sliceBounds isS len cap (lo'.map a.eval) (hi'.map a.eval) (mx'.map a.eval)).run g.P w = .ok (l, m, n) w := by
  unfold boundsE at hb
  split at hb
  · simp at hb
  rename_i m1 hm
  split at hb
  · simp at hb
  rename_i h4 hh
  split at hb
  · simp at hb
  rename_i l1 hl
  simp only [Option.some.injEq, Prod.mk.injEq] at hb
  obtain ⟨rfl, rfl, rfl⟩ := hb
  cases mx with
  | none =>
    cases mx' with
    | some y => simp [PG.matchO] at h3
    | none =>
      simp only [Option.some.injEq] at hm
      subst hm
      cases hi with
      | none =>
        cases hi' with
        | some y => simp [PG.matchO] at h2
        | none =>
          simp only [Option.isSome_none, Bool.false_eq_true, if_false, Option.some.injEq] at hh
          subst hh
          cases lo with
          | none =>
            cases lo' with
            | some y => simp [PG.matchO] at h1
            | none =>
              simp only [Option.some.injEq] at hl
              subst hl
              simp [Instr.sliceBounds]
          | some z =>
            cases lo' with
            | none => simp [PG.matchO] at h1
            | some y =>
              have b3 : ∀ code, (Instr.sliceBound (a.eval y) len code).run g.P w = .ok l1 w := fun _ => run_bound hl (h.x h1)
              simp [Instr.sliceBounds, b3]
      | some z2 =>
        cases hi' with
        | none => simp [PG.matchO] at h2
        | some y2 =>
          have b2 : ∀ code, (Instr.sliceBound (a.eval y2) cap code).run g.P w = .ok h4 w := fun _ => run_bound hh (h.x h2)
          cases lo with
          | none =>
            cases lo' with
            | some y => simp [PG.matchO] at h1
            | none =>
              simp only [Option.some.injEq] at hl
              subst hl
              simp [Instr.sliceBounds, b2]
          | some z =>
            cases lo' with
            | none => simp [PG.matchO] at h1
            | some y =>
              have b3 : ∀ code, (Instr.sliceBound (a.eval y) h4 code).run g.P w = .ok l1 w := fun _ => run_bound hl (h.x h1)
              simp [Instr.sliceBounds, b2, b3]
  | some z1 =>
    cases mx' with
    | none => simp [PG.matchO] at h3
    | some y1 =>
      have b1 : ∀ code, (Instr.sliceBound (a.eval y1) cap code).run g.P w = .ok m1 w := fun _ => run_bound hm (h.x h3)
      cases hi with
      | none => simp at hh
      | some z2 =>
        cases hi' with
        | none => simp [PG.matchO] at h2
        | some y2 =>
          have b2 : ∀ code, (Instr.sliceBound (a.eval y2) m1 code).run g.P w = .ok h4 w := fun _ => run_bound hh (h.x h2)
          cases lo with
          | none =>
            cases lo' with
            | some y => simp [PG.matchO] at h1
            | none =>
              simp only [Option.some.injEq] at hl
              subst hl
              simp [Instr.sliceBounds, b1, b2]
          | some z =>
            cases lo' with
            | none => simp [PG.matchO] at h1
            | some y =>
              have b3 : ∀ code, (Instr.sliceBound (a.eval y) h4 code).run g.P w = .ok l1 w := fun _ => run_bound hl (h.x h1)
              simp [Instr.sliceBounds, b1, b2, b3]

theorem boundsE_le {E : Env} {tmps : List PV} {len cap : Nat} {lo hi mx : Option PX} {l m n : Nat} (hc : len ≤ cap) (hb : boundsE E tmps len cap lo hi mx = some (l, m, n)) : l ≤ m ∧ m ≤ n ∧ n ≤ cap ∧ (mx = none → n = cap) ∧ (hi = none → m = len) := by
  unfold boundsE at hb
  split at hb
  · simp at hb
  rename_i m1 hm
  split at hb
  · simp at hb
  rename_i h4 hh
  split at hb
  · simp at hb
  rename_i l1 hl
  simp only [Option.some.injEq, Prod.mk.injEq] at hb
  obtain ⟨rfl, rfl, rfl⟩ := hb
  have e1 : m1 ≤ cap ∧ (mx = none → m1 = cap) := by
    cases mx with
    | none => simp at hm; omega
    | some y => exact ⟨bound_le hm, by simp⟩
  have e2 : h4 ≤ m1 ∧ (hi = none → h4 = len) := by
    cases hi with
    | none =>
      cases mx with
      | none => simp at hm hh; omega
      | some y => simp at hh
    | some y => exact ⟨bound_le hh, by simp⟩
  have e3 : l1 ≤ h4 := by
    cases lo with
    | none => simp at hl; omega
    | some y => exact bound_le hl
  exact ⟨e3, e2.1, e1.1, e1.2, e2.2⟩

theorem boundsE_cap {E : Env} {tmps : List PV} {len cap cap' : Nat} {lo hi mx : Option PX} {l m n : Nat} (hc : cap ≤ cap') (hb : boundsE E tmps len cap lo hi mx = some (l, m, n)) :
    boundsE E tmps len cap' lo hi mx = some (l, m, if mx.isNone then cap' else n) := by
  have mono : ∀ {v : PV} {y y' k : Nat}, y ≤ y' → bound v y = some k → bound v y' = some k := by
    intro v y y' k hy h
    unfold bound at h ⊢
    split at h
    · split at h <;> simp only [Option.some.injEq, reduceCtorEq] at h
      rename_i i hi
      have : 0 ≤ i ∧ i ≤ (y' : Int) := by omega
      simp only [this, and_self, if_true, h]
    · simp at h
  unfold boundsE at hb ⊢
  cases mx with
  | none =>
    simp only at hb ⊢
    cases hi with
    | none =>
      simp only [Option.isSome_none, Bool.false_eq_true, if_false] at hb ⊢
      split at hb
      · simp at hb
      · simp only [Option.some.injEq, Prod.mk.injEq] at hb
        obtain ⟨rfl, rfl, rfl⟩ := hb
        simp
    | some y =>
      simp only at hb ⊢
      cases hbd : bound (evX E tmps y) cap with
      | none => simp [hbd] at hb
      | some k =>
        rw [mono hc hbd]
        simp only [hbd] at hb ⊢
        split at hb
        · simp at hb
        · simp only [Option.some.injEq, Prod.mk.injEq] at hb
          obtain ⟨rfl, rfl, rfl⟩ := hb
          simp
  | some z =>
    simp only at hb ⊢
    cases hbd : bound (evX E tmps z) cap with
    | none => simp [hbd] at hb
    | some k =>
      rw [mono hc hbd]
      simp only [hbd] at hb ⊢
      exact hb

theorem headSz_sz {sz n : Nat} {L : List PV} (h : headSz sz L = true) (hs : ∀ (i : Nat) e, L[i]? = some e → e.cells.length = n) : L = [] ∨ n = sz := by
  cases L with
  | nil => exact .inl rfl
  | cons e r =>
    right
    have := hs 0 e rfl
    simp only [headSz] at h
    have := Nat.eq_of_beq_eq_true h
    omega

theorem ok_sls (h : FrRel g c w fr a) {x : PX} {lo hi : Option PX} {x' : Operand} {lo' hi' : Option Operand} {t : TypeId} (ho : o.op = .slice t x' lo' hi' none) (ht : g.P.underlying t = some .string) (hx : g.matchX x x' = true)
    (h1 : g.matchO lo lo' = true) (h2 : g.matchO hi hi' = true) (hs : stepOp g.E callE yieldE o.dst (.sls x lo hi) fr = some fr') : OpOK g c w fr fr' a o.dst ((execOp a.eval o).run g.P w) := by
  have hv := h.x hx
  simp only [stepOp] at hs
  split at hs
  case h_2 => simp at hs
  rename_i s e
  split at hs <;> simp only [Option.some.injEq, reduceCtorEq] at hs
  rename_i l hh m hb
  subst hs
  rw [e] at hv
  obtain ⟨t1, f1, g1⟩ := hv.str_inv
  have hl : t1.size = s.length := by rw [← g1]; rfl
  have hrun := run_bounds (isS := false) h h1 h2 (mx := none) (mx' := none) rfl hb
  refine OpOK.value h _ (v := .string (t1.extract l hh)) ?_ (.i _ _ ?_)
  · simp only [Option.map_none] at hrun
    simp [execOp, ho, f1, Instr.sliceAt, Instr.slice, run_underlying' g.P w ht, hl, hrun]
  · have : (s.take hh).drop l = (t1.extract l hh).data.toList := by
      rw [← g1]
      simp [ByteArray.data_extract, List.drop_take]
    rw [this]
    exact .str _

theorem ok_slc (h : FrRel g c w fr a) {sz : Nat} {x : PX} {lo hi mx : Option PX} {x' : Operand} {lo' hi' mx' : Option Operand} {t E : TypeId} {i : TypeInfo} (ho : o.op = .slice t x' lo' hi' mx') (ht : g.P.underlying t = some (.slice E)) (hi0 : g.P.info? E = some i) (hz : i.size = sz)
    (hx : g.matchX x x' = true) (h1 : g.matchO lo lo' = true) (h2 : g.matchO hi hi' = true) (h3 : g.matchO mx mx' = true) (hs : stepOp g.E callE yieldE o.dst (.slc sz x lo hi mx) fr = some fr') :
    OpOK g c w fr fr' a o.dst ((execOp a.eval o).run g.P w) := by
  have hv := h.x hx
  obtain ⟨u, hu⟩ : ∃ u, u = a.eval x' := ⟨_, rfl⟩
  rw [← hu] at hv
  have run : ∀ {A : Option Addr} {len cap l m n : Nat}, u = .slice A len cap → boundsE g.E fr.tmps len cap lo hi mx = some (l, m, n) →
      (execOp a.eval o).run g.P w = .ok (.value (.slice (if n = l then A else A.map (·.add (l * i.size))) (m - l) (n - l))) w := by
    intro A len cap l m n e hb
    have hrun := run_bounds (isS := true) h h1 h2 h3 hb
    simp [execOp, ho, ← hu, e, Instr.sliceAt, Instr.slice, run_underlying' g.P w ht, hrun, run_sizeOf' g.P w hi0]
  simp only [stepOp] at hs
  split at hs
  · rename_i f L e
    split at hs
    case h_2 => simp at hs
    rename_i l m n hb
    split at hs <;> simp only [Option.some.injEq, reduceCtorEq] at hs
    rename_i hsz
    have hsz' : headSz sz L = true := by simpa using hsz
    subst hs
    rw [e] at hv
    have hle := boundsE_le (Nat.le_refl _) hb
    have hI := hv.vs_inv
    cases hI with
    | vsNone _ hnn =>
      simp only [List.length_nil] at hb hle
      refine OpOK.value h _ (run rfl hb) ?_
      have e1 : l = 0 := by omega
      have e2 : m = 0 := by omega
      have e3 : n = 0 := by omega
      subst e1 e2 e3
      simp only [List.take_nil, List.drop_nil, if_true, Nat.sub_zero]
      refine .i _ _ (.vsNone _ ?_)
      split <;> (try split) <;> simp
    | vsE _ A hcE =>
      simp only [List.length_nil] at hb hle
      refine OpOK.value h _ (run rfl hb) ?_
      have e1 : l = 0 := by omega
      have e2 : m = 0 := by omega
      have e3 : n = 0 := by omega
      subst e1 e2 e3
      simp only [List.take_nil, List.drop_nil, if_true, Nat.sub_zero]
      refine .i _ _ (.vsE _ A ?_)
      rw [if_neg hcE]
      split <;> simp
    | vs _ _ b o' cap sz' uf hc hcap hclip hsz2 hcell hh =>
      have hb' := boundsE_cap hcap hb
      refine OpOK.value h _ (run rfl hb') ?_
      rw [if_neg hc]
      have hlen : ((L.take m).drop l).length = m - l := by simp; omega
      have hfl : ∀ {q : Nat}, q = (if mx.isNone = true then cap else n) → (if (f.full || mx.isSome) && Nat.beq m n then Fl.clip else Fl.any) = .clip → q - l = m - l := by
        intro q hq hfl
        split at hfl
        · rename_i hcnd
          simp only [Bool.and_eq_true, Bool.or_eq_true] at hcnd
          have hmn := Nat.eq_of_beq_eq_true hcnd.2
          cases mx with
          | some z => simp at hq; omega
          | none =>
            simp only [Option.isSome_none, Bool.false_eq_true, or_false] at hcnd
            have hfc : f = .clip := by cases f <;> simp_all [Fl.full]
            have := hclip hfc
            simp at hq
            have := hle.2.2.2.1 rfl
            omega
        · simp at hfl
      have hq : ∃ q, q = (if mx.isNone = true then cap else n) ∧ m ≤ q := by
        refine ⟨_, rfl, ?_⟩
        split <;> omega
      obtain ⟨q, hq, hmq⟩ := hq
      rw [← hq]
      have hne : ((if (f.full || mx.isSome) && Nat.beq m n then Fl.clip else Fl.any) ≠ .nil) := by split <;> simp
      rcases headSz_sz hsz' hsz2 with hL | hss
      · subst hL
        simp only [List.length_nil] at hle
        have e1 : l = 0 := by omega
        have e2 : m = 0 := by omega
        subst e1 e2
        have hadr : (if q = 0 then some (⟨b, o', none⟩ : Addr) else Option.map (fun x : Addr => x.add (0 * i.size)) (some (⟨b, o', none⟩ : Addr))) = some ⟨b, o', none⟩ := by
          split <;> simp [Addr.add]
        rw [hadr]
        have := IRel.vs (imm := c.imm) (w := w) (if (f.full || mx.isSome) && Nat.beq 0 n then Fl.clip else Fl.any) [] b o' q sz' uf hne (Nat.zero_le _) (fun hx => by have := hfl hq hx; simpa using this) (by simp) (fun i j hi => by simp at hi) (by simp)
        simpa using VRel.i (c := c) _ _ this
      · subst hss
        by_cases hql : q = l
        · rw [if_pos hql]
          have hm : m = l := by omega
          subst hm
          have := IRel.vs (imm := c.imm) (w := w) (if (f.full || mx.isSome) && Nat.beq m n then Fl.clip else Fl.any) [] b o' (q - m) sz' uf hne (Nat.zero_le _) (fun hx => by have := hfl hq hx; simp; omega) (by simp) (fun i j hi => by simp at hi) (by simp)
          have hnil : (L.take m).drop m = [] := by rw [List.drop_eq_nil_of_le]; simp; omega
          rw [hnil]
          simpa using VRel.i (c := c) _ _ this
        · rw [if_neg hql]
          simp only [Option.map_some, add_none, hz]
          have := IRel.vs (imm := c.imm) (w := w) (if (f.full || mx.isSome) && Nat.beq m n then Fl.clip else Fl.any) ((L.take m).drop l) b (o' + l * sz') (q - l) sz' (fun i j => uf (l + i) j) hne (by rw [hlen]; omega) (fun hx => by rw [hlen]; exact hfl hq hx)
            (fun i e he => by
              rw [List.getElem?_drop, List.getElem?_take] at he
              split at he
              · exact hsz2 _ _ he
              · simp at he)
            (fun i j hi hj => by
              rw [hlen] at hi
              have := hcell (l + i) j (by omega) hj
              rw [show o' + l * sz' + i * sz' + j = o' + (l + i) * sz' + j by rw [Nat.add_mul]; omega]
              exact this)
            (fun i j e cv he hj => by
              rw [List.getElem?_drop, List.getElem?_take] at he
              split at he
              · exact hh _ _ _ _ he hj
              · simp at he)
          rw [hlen] at this
          exact .i _ _ this
  · rename_i nm gg off len e
    split at hs
    case h_2 => simp at hs
    rename_i el g' cl hob
    split at hs
    case isFalse => simp at hs
    rename_i hc
    obtain ⟨hgg, hmx, hsz, hoff⟩ := hc
    have hmx' : mx = none := by simpa using hmx
    subst hmx' hgg
    split at hs <;> simp only [Option.some.injEq, reduceCtorEq] at hs
    rename_i l m n hb
    subst hs
    rw [e] at hv
    have hgen := (h.heap nm _ hob).1
    have hle := boundsE_le (Nat.le_refl _) hb
    obtain ⟨p, hp, hM, hcs⟩ := sl_live h.heap hv hob
    rcases hcs with ⟨hbn, h01, h02, e1⟩ | ⟨b, hbb, hll, e1⟩ | ⟨h01, h02, x1, e1⟩
    · subst h01 h02
      refine OpOK.value h _ (run e1 hb) ?_
      have e1 : l = 0 := by omega
      have e2 : m = 0 := by omega
      have e3 : n = 0 := by omega
      subst e1 e2 e3
      simp only [if_true, Nat.zero_add, Nat.sub_self]
      exact .slNil nm gg p (Nat.le_of_eq hgen.symm) hp hbn
    · have hb' := boundsE_cap (show len ≤ p.cap - off by omega) hb
      simp only [Option.isNone_none, if_true] at hb'
      refine OpOK.value h _ (run e1 hb') ?_
      by_cases hql : p.cap - off = l
      · rw [if_pos hql]
        have hm : m = l := by omega
        subst hm
        rw [hql, Nat.sub_self]
        exact .slE nm gg (off + m) p _ (Nat.le_of_eq hgen.symm) hp (by omega)
      · rw [if_neg hql]
        simp only [Option.map_some, add_none]
        have hadr : p.base + off * p.sz + l * i.size = p.base + (off + l) * p.sz := by
          rcases headSz_sz hsz hM.sz with hL | hss
          · subst hL
            simp only [List.length_nil] at hoff
            have e1 : off = 0 := by omega
            have e2 : l = 0 := by omega
            subst e1 e2
            simp
          · rw [hz, ← hss, Nat.add_mul]; omega
        rw [hadr]
        have := VRel.sl (c := c) (w := w) nm gg (off + l) (m - l) p b (Nat.le_of_eq hgen.symm) hp hbb (by omega)
        rw [show p.cap - (off + l) = p.cap - off - l by omega] at this
        exact this
    · subst h01
      refine OpOK.value h _ (run e1 hb) ?_
      have e1 : l = 0 := by omega
      have e2 : m = 0 := by omega
      have e3 : n = 0 := by omega
      subst e1 e2 e3
      simp only [if_true, Nat.sub_zero, Nat.add_zero]
      exact .slE nm gg off p x1 (Nat.le_of_eq hgen.symm) hp h02
  · simp at hs

end Go.VI
