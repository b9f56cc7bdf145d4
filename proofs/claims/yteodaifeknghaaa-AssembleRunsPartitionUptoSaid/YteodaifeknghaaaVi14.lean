/- Maps; a slice that will not be written any more. -/
import Derived.Test.YteodaifeknghaaaVi13
namespace Go.VI
variable {g : PG} {c : Ctx} {w : World} {fr fr' : Fr} {a : Act} {o : Oper} {callE : CallE} {yieldE : Nm → List PV → Heap → Option (PV × Heap)}

/-- Keys that are compared at once. -/
def keyOK (P : Program) (t : TypeId) (str : Bool) : Bool :=
  match P.underlying t with
  | some (.int _) => !str
  | some .string => str
  | _ => false

theorem keySame_now {P : Program} {kt : TypeId} {str : Bool} {d : TypeDesc} {imm : Nat → Prop} {k k' : PV} {u u' : Value} {b : Bool} (hk : keyOK P kt str = true) (hd : P.underlying kt = some d) (h1 : IRel imm w k u) (h2 : IRel imm w k' u') (hs : keySame k k' = some b)
    (ht : keyIs str k = true) : Instr.sameNow d u u' = some b := by
  unfold keySame at hs
  unfold keyOK at hk
  rw [hd] at hk
  split at hs
  · split at hs <;> simp only [Option.some.injEq, reduceCtorEq] at hs
    rename_i hkk
    subst hkk
    cases h1
    cases h2
    cases str <;> simp [keyIs] at ht
    cases d <;> simp_all [Instr.sameNow]
  · simp only [Option.some.injEq] at hs
    cases h1
    cases h2
    rename_i s1 s2
    have : (s1 == s2) = b := by
      rw [← hs]
      have hb : (s1 == s2) = (s1.data == s2.data) := rfl
      rw [hb]
      by_cases e : s1.data = s2.data
      · simp [e]
      · have : s1.data.toList ≠ s2.data.toList := fun h => e (Array.ext' h)
        rw [beq_false_of_ne e, beq_false_of_ne this]
    cases str <;> simp [keyIs] at ht
    cases d <;> simp_all [Instr.sameNow]
  · cases hs

/-- The search among a map's entries. -/
theorem findNow_spec {P : Program} {kt : TypeId} {str : Bool} {d : TypeDesc} {imm : Nat → Prop} (hk : keyOK P kt str = true) (hd : P.underlying kt = some d) {k : PV} {u : Value} (h1 : IRel imm w k u) (ht : keyIs str k = true) :
    ∀ (es : List (PV × PV)) (xs : List MapEntry) (i : Nat) (r : Option PV), es.length = xs.length → (∀ (j : Nat) (e : PV × PV) (x : MapEntry), es[j]? = some e → xs[j]? = some x → IRel imm w e.1 x.key ∧ IRel imm w e.2 x.val) → findE k es = some r →
      (r = none ∧ Instr.findNow d u xs i = some none ∧ ∀ v, setE k v es = es ++ [(k, v)]) ∨
      ∃ (j : Nat) (e : PV × PV) (x : MapEntry), r = some e.2 ∧ es[j]? = some e ∧ xs[j]? = some x ∧ keySame k e.1 = some true ∧ Instr.findNow d u xs i = some (some (i + j, x.val)) ∧ ∀ v, setE k v es = es.set j (k, v)
  | [], [], i, r, _, _, hf => by
    simp only [findE, Option.some.injEq] at hf
    exact .inl ⟨hf.symm, rfl, fun v => rfl⟩
  | e :: es, x :: xs, i, r, hl, hr, hf => by
    obtain ⟨h2, h3⟩ := hr 0 e x rfl rfl
    simp only [findE] at hf
    split at hf
    · rename_i hs
      simp only [Option.some.injEq] at hf
      have := keySame_now hk hd h1 h2 hs ht
      exact .inr ⟨0, e, x, hf.symm, rfl, rfl, hs, by simp [Instr.findNow, this], fun v => by simp [setE, hs]⟩
    · rename_i hs
      have := keySame_now hk hd h1 h2 hs ht
      rcases findNow_spec hk hd h1 ht es xs (i + 1) r (by simpa using hl) (fun j e' x' he hx => hr (j + 1) e' x' (by simpa using he) (by simpa using hx)) hf with ⟨h4, h5, h6⟩ | ⟨j, e', x', h4, h5, h6, h7, h8, h9⟩
      · exact .inl ⟨h4, by simp [Instr.findNow, this, h5], fun v => by simp [setE, hs, h6]⟩
      · exact .inr ⟨j + 1, e', x', h4, by simpa using h5, by simpa using h6, h7, by simp [Instr.findNow, this, h8]; omega, fun v => by simp [setE, hs, h9]⟩
    · cases hf
  | [], _ :: _, _, _, hl, _, _ => by simp at hl
  | _ :: _, [], _, _, hl, _, _ => by simp at hl

theorem run_checkKey {P : Program} {kt : TypeId} {str : Bool} {b : Bool} {n : Nat} {u : Value} (hk : keyOK P kt str = true) : (Instr.checkKey b (n + 1) kt u).run P w = .ok () w := by
  unfold keyOK at hk
  split at hk
  · rename_i h; simp only [Instr.checkKey, Sem.run_bind, run_underlying' P w h, Result.andThen_ok]; rfl
  · rename_i h; simp only [Instr.checkKey, Sem.run_bind, run_underlying' P w h, Result.andThen_ok]; rfl
  · cases hk

theorem run_findKey {P : Program} {kt : TypeId} {d : TypeDesc} {u : Value} {xs : List MapEntry} {r : Option (Nat × Value)} (hd : P.underlying kt = some d) (h : Instr.findNow d u xs 0 = some r) : (Instr.findKey kt u xs).run P w = .ok r w := by
  simp [Instr.findKey, run_underlying' P w hd, h]

theorem run_getObj_m {P : Program} {b : Nat} {es : Array MapEntry} {clock : Nat} (hb : w.heap[b]? = some (.map es clock)) : (getObj b).run P w = .ok (.map es clock) w := by simp [getObj, Sem.run, hb]
theorem run_setObj_m {P : Program} {b : Nat} {es : Array MapEntry} {clock : Nat} (x : Obj) (hb : w.heap[b]? = some (.map es clock)) : (setObj b x).run P w = .ok () { w with heap := w.heap.setIfInBounds b x } := by simp [setObj, Sem.run, hb]

/-- A map in memory. -/
theorem map_live {n : Nm} {gg : Nat} {u : Value} {es : List (PV × PV)} {clock : Nat} (hH : HRel g.MC c fr.heap w) (hv : VRel c w (.map n gg) u) (ho : hget fr.heap n = some (.map es clock gg)) :
    ∃ p b arr, c.obj n = some p ∧ p.blk = some b ∧ u = .map (some b) ∧ w.heap[b]? = some (.map arr clock) ∧ arr.size = es.length ∧
      ∀ (i : Nat) (e : PV × PV) (x : MapEntry), es[i]? = some e → arr[i]? = some x → IRel c.imm w e.1 x.key ∧ IRel c.imm w e.2 x.val := by
  obtain ⟨h1, h2⟩ := hH n _ ho
  cases hv with
  | i _ _ h => cases h
  | mapStale _ _ _ hlt => omega
  | map _ _ p b hg hp hb =>
    obtain ⟨b', arr, h3, h4, h5, h6⟩ := h2 p hp
    rw [hb] at h3
    simp only [Option.some.injEq] at h3
    subst h3
    exact ⟨p, b, arr, hp, hb, rfl, h4, h5, h6⟩

theorem keyIs_irel {str : Bool} {k : PV} {u : Value} (h : VRel c w k u) (hk : keyIs str k = true) : IRel c.imm w k u := by
  cases str <;> cases k <;> simp [keyIs] at hk <;> exact h.pure rfl

theorem ok_lookup (h : FrRel g c w fr a) {str ok : Bool} {z : PV} {m k : PX} {m' k' : Operand} {t kt et : TypeId} {d : TypeDesc} {i : TypeInfo} {zv : Value} (ho : o.op = .lookup t m' k' ok) (ht : g.P.underlying t = some (.map kt et)) (hd : g.P.underlying kt = some d)
    (hk : keyOK g.P kt str = true) (hi : g.P.info? et = some i) (hz : i.zero = some zv) (hzc : constOK z zv = true) (hm : g.matchX m m' = true) (hkx : g.matchX k k' = true)
    (hs : stepOp g.E callE yieldE o.dst (.lookup str z ok m k) fr = some fr') : OpOK g c w fr fr' a o.dst ((execOp a.eval o).run g.P w) := by
  have v1 := h.x hm
  have v2 := h.x hkx
  obtain ⟨um, hum⟩ : ∃ um, um = a.eval m' := ⟨_, rfl⟩
  rw [← hum] at v1
  simp only [stepOp] at hs
  split at hs
  · simp at hs
  rename_i hki
  have hki : keyIs str (evX g.E fr.tmps k) = true := by simpa using hki
  have v2i := keyIs_irel v2 hki
  split at hs
  case h_2 => simp at hs
  rename_i es hes
  split at hs <;> simp only [Option.some.injEq, reduceCtorEq] at hs
  rename_i r hr
  subst hs
  have hcheck : ∀ b, (Instr.checkKey b 10000 kt (a.eval k')).run g.P w = .ok () w := fun b => run_checkKey hk
  -- the entries
  have key : ∃ (xs : Array MapEntry) (q : Option (Nat × Value)), ((um = .map none ∧ xs = #[]) ∨ ∃ b clock, um = .map (some b) ∧ w.heap[b]? = some (.map xs clock)) ∧ Instr.findNow d (a.eval k') xs.toList 0 = some q ∧
      ((r = none ∧ q = none) ∨ ∃ j v u, r = some v ∧ q = some (j, u) ∧ IRel c.imm w v u) := by
    split at hes
    · rename_i hnil
      simp only [Option.some.injEq] at hes
      subst hes
      rw [hnil] at v1
      have : um = .map none := by
        cases v1 with
        | i _ _ h => cases h; rfl
      simp only [findE, Option.some.injEq] at hr
      exact ⟨#[], none, .inl ⟨this, rfl⟩, rfl, .inl ⟨hr.symm, rfl⟩⟩
    · rename_i n gg hn
      split at hes
      case h_2 => simp at hes
      rename_i es' clock g' hob
      split at hes <;> simp only [Option.some.injEq, reduceCtorEq] at hes
      rename_i hgg
      subst hgg
      subst hes
      rw [hn] at v1
      obtain ⟨p, b, arr, hp, hb, e1, ha, hsz, hrel⟩ := map_live h.heap v1 hob
      refine ⟨arr, ?_⟩
      rcases findNow_spec hk hd v2i hki es' arr.toList 0 r (by simpa using hsz.symm) (fun j e x he hx => hrel j e x he (by simpa using hx)) hr with ⟨h4, h5, _⟩ | ⟨j, e, x, h4, h5, h6, _, h8, _⟩
      · exact ⟨none, .inr ⟨b, clock, e1, ha⟩, h5, .inl ⟨h4, rfl⟩⟩
      · exact ⟨_, .inr ⟨b, clock, e1, ha⟩, h8, .inr ⟨_, _, _, h4, rfl, (hrel j e x h5 (by simpa using h6)).2⟩⟩
    · simp at hes
  obtain ⟨xs, q, hx, hq, hrq⟩ := key
  have hfk := run_findKey (w := w) hd hq
  have hz0 := constOK_rel c.imm w z zv hzc
  have hzr : (zeroValue et).run g.P w = .ok zv w := by simp [zeroValue, typeInfo, hi, hz]
  have run : ∃ u, (Instr.lookup t um (a.eval k') ok).run g.P w = .ok (if ok then .tuple #[u, .bool r.isSome] else u) w ∧ IRel c.imm w (r.getD z) u := by
    rcases hrq with ⟨rfl, rfl⟩ | ⟨j, v, u, rfl, rfl, hvu⟩
    · refine ⟨zv, ?_, hz0⟩
      rcases hx with ⟨e1, rfl⟩ | ⟨b, clock, e1, ha⟩
      · simp only [Instr.lookup, Sem.run_bind, run_underlying' g.P w ht, Result.andThen_ok, e1, hcheck, hfk, hzr, Sem.run_pure]
        cases ok <;> rfl
      · simp only [Instr.lookup, Sem.run_bind, run_underlying' g.P w ht, Result.andThen_ok, e1, run_getObj_m ha, hcheck, hfk, hzr, Sem.run_pure]
        cases ok <;> rfl
    · refine ⟨u, ?_, hvu⟩
      rcases hx with ⟨e1, rfl⟩ | ⟨b, clock, e1, ha⟩
      · simp [Instr.findNow] at hq
      · simp only [Instr.lookup, Sem.run_bind, run_underlying' g.P w ht, Result.andThen_ok, e1, run_getObj_m ha, hcheck, hfk, Sem.run_pure]
        cases ok <;> rfl
  obtain ⟨u, hu, hru⟩ := run
  refine OpOK.value h _ (v := if ok then .tuple #[u, .bool r.isSome] else u) (by simp [execOp, ho, ← hum, hu]) (.i _ _ ?_)
  cases ok
  · exact hru
  · refine .tuple _ _ rfl fun i cv x hc hx => ?_
    match i with
    | 0 => simp at hc hx; exact hc ▸ hx ▸ hru
    | 1 => simp at hc hx; exact hc ▸ hx ▸ .bool _
    | i + 2 => simp at hc

theorem setObj_redo {n : Nm} {p : Place} {b k : Nat} {x : Obj} (hp : c.obj n = some p) (hb : p.blk = some b) (hk : c.gen n ≤ k) : Redo c w { w with heap := w.heap.setIfInBounds b x } n p p k where
  hp := hp
  hk := (Nat.lt_or_eq_of_le hk).imp id fun e => ⟨e, rfl⟩
  size := by simp
  os := rfl
  out := rfl
  same b' _ hne := by
    show (w.heap.setIfInBounds b x)[b']? = _
    rw [Array.getElem?_setIfInBounds_ne]
    intro e
    exact hne (by rw [hb, e])
  blk b' hb' := .inl hb'

theorem sameBits_key {str : Bool} {imm : Nat → Prop} {k k' : PV} {u u' : Value} (h1 : IRel imm w k u) (h2 : IRel imm w k' u') (hi : keyIs str k = true) (hs : keySame k k' = some true) : Instr.sameBits 10000 u' u = true := by
  unfold keySame at hs
  split at hs
  · split at hs <;> simp only [Option.some.injEq, reduceCtorEq] at hs
    rename_i hkk
    subst hkk
    cases h1
    cases h2
    simp_all [Instr.sameBits]
  · simp only [Option.some.injEq] at hs
    cases h1
    cases h2
    rename_i s1 s2
    have : s1 = s2 := ByteArray.ext (Array.ext' (by simpa using hs))
    subst this
    simp only [Instr.sameBits]
    exact beq_self_eq_true s1.data
  · cases hs

theorem ok_mupd (h : FrRel g c w fr a) {str : Bool} {m k x : PX} {m' k' x' : Operand} {t kt et : TypeId} {d : TypeDesc} (ho : o.op = .mapUpdate t m' k' x') (ht : g.P.underlying t = some (.map kt et)) (hd : g.P.underlying kt = some d)
    (hk : keyOK g.P kt str = true) (hm : g.matchX m m' = true) (hkx : g.matchX k k' = true) (hx : g.matchX x x' = true)
    (hs : stepOp g.E callE yieldE o.dst (.mupd str m k x) fr = some fr') : OpOK g c w fr fr' a o.dst ((execOp a.eval o).run g.P w) := by
  have v1 := h.x hm
  have v2 := h.x hkx
  have v3 := h.x hx
  simp only [stepOp] at hs
  split at hs
  case isFalse => simp at hs
  rename_i hc
  simp only [Bool.and_eq_true] at hc
  obtain ⟨hpure, hki⟩ := hc
  split at hs
  case h_2 => simp at hs
  rename_i n gg hn
  split at hs
  case h_2 => simp at hs
  rename_i es clock g' hob
  split at hs
  case isFalse => simp at hs
  rename_i hgg
  subst hgg
  split at hs <;> simp only [Option.some.injEq, reduceCtorEq] at hs
  rename_i r hr
  subst hs
  rw [hn] at v1
  have v2i := keyIs_irel v2 hki
  have v3i := v3.pure hpure
  have hgen := (h.heap n _ hob).1
  obtain ⟨p, b, arr, hp, hb, e1, ha, hsz, hrel⟩ := map_live h.heap v1 hob
  have hcheck : (Instr.checkKey false 10000 kt (a.eval k')).run g.P w = .ok () w := run_checkKey hk
  have fin : ∀ (xs : Array MapEntry) (ck : Nat), (Instr.mapUpdate t (a.eval m') (a.eval k') (a.eval x')).run g.P w = .ok () { w with heap := w.heap.setIfInBounds b (.map xs ck) } → ck = (if r.isSome then clock else clock + 1) → xs.size = (setE (evX g.E fr.tmps k) (evX g.E fr.tmps x) es).length →
      (∀ (i : Nat) (e : PV × PV) (y : MapEntry), (setE (evX g.E fr.tmps k) (evX g.E fr.tmps x) es)[i]? = some e → xs[i]? = some y → IRel c.imm w e.1 y.key ∧ IRel c.imm w e.2 y.val) →
      OpOK g c w fr ({ fr with heap := hset fr.heap n (.map (setE (evX g.E fr.tmps k) (evX g.E fr.tmps x) es) (if r.isSome then clock else clock + 1) gg) }.put o.dst (.tuple [])) a o.dst ((execOp a.eval o).run g.P w) := by
    intro xs ck hrun hck hxs hxr
    have hredo : Redo c w { w with heap := w.heap.setIfInBounds b (.map xs ck) } n p p gg := setObj_redo hp hb (Nat.le_of_eq hgen)
    refine ⟨undef, _, _, .inr ⟨by simp [execOp, ho, hrun], rfl⟩, hredo.step, FrRel.put (h.redo hredo hob (?_ : ObRel g.MC _ _ n (.map _ _ gg))) o.dst undef_rel⟩
    refine ⟨Ctx.lay_gen_self _ _ _ _, fun q hq => ?_⟩
    rw [Ctx.lay_obj_self] at hq
    simp only [Option.some.injEq] at hq
    subst hq
    have hbl := (Array.getElem?_eq_some_iff.1 ha).1
    refine ⟨b, xs, hb, ?_, hxs, fun i e y he hy => ?_⟩
    · show (w.heap.setIfInBounds b _)[b]? = _
      rw [Array.getElem?_setIfInBounds_self_of_lt hbl, hck]
    · obtain ⟨h1, h2⟩ := hxr i e y he hy
      exact ⟨h1.step hredo.step h.wf, h2.step hredo.step h.wf⟩
  rcases findNow_spec hk hd v2i hki es arr.toList 0 r (by simpa using hsz.symm) (fun j e x he hx => hrel j e x he (by simpa using hx)) hr with ⟨h4, h5, h6⟩ | ⟨j, e, y, h4, h5, h6, h7, h8, h9⟩
  · refine fin (arr.push { key := a.eval k', val := a.eval x', born := clock }) (clock + 1) ?_ (by rw [h4]; rfl) (by rw [h6]; simp [hsz]) ?_
    · have hfk := run_findKey (w := w) hd h5
      simp [Instr.mapUpdate, run_underlying' g.P w ht, e1, run_getObj_m ha, hcheck, hfk, run_setObj_m _ ha]
    · intro i e y he hy
      rw [h6, List.getElem?_append] at he
      rw [Array.getElem?_push] at hy
      split at he
      · rename_i hlt
        rw [if_neg (by omega)] at hy
        exact hrel i e y he hy
      · rename_i hge
        have hil : i - es.length < 1 := by have := getElem?_some_lt he; simpa using this
        rw [if_pos (by omega)] at hy
        simp only [Option.some.injEq] at hy
        subst hy
        rw [show i - es.length = 0 by omega] at he
        simp only [List.getElem?_cons_zero, Option.some.injEq] at he
        subst he
        exact ⟨v2i, v3i⟩
  · have hy' : arr[j]? = some y := by simpa using h6
    have hj := (Array.getElem?_eq_some_iff.1 hy').1
    have hbits := sameBits_key v2i (hrel j e y h5 hy').1 hki h7
    refine fin (arr.modify j fun e => { e with key := a.eval k', val := a.eval x' }) clock ?_ (by rw [h4]; rfl) (by rw [h9]; simp [hsz]) ?_
    · have hfk := run_findKey (w := w) hd h8
      simp [Instr.mapUpdate, run_underlying' g.P w ht, e1, run_getObj_m ha, hcheck, hfk, run_setObj_m _ ha, hy', Instr.keyThatStays, hbits]
    · intro i e' y' he hy2
      rw [h9, List.getElem?_set] at he
      rw [Array.getElem?_modify] at hy2
      split at he
      · rename_i hij
        subst hij
        split at he <;> simp only [Option.some.injEq, reduceCtorEq] at he
        subst he
        rw [if_pos rfl, hy'] at hy2
        simp only [Option.map_some, Option.some.injEq] at hy2
        subst hy2
        exact ⟨v2i, v3i⟩
      · rename_i hij
        rw [if_neg hij] at hy2
        exact hrel i e' y' he hy2

theorem ok_lenm (h : FrRel g c w fr a) {x : PX} {x' : Operand} {t kt et : TypeId} {ty : Array TypeId} (ho : o.op = .call { callee := .builtin .len, args := #[x'], argTypes := ty }) (hty : ty[0]? = some t)
    (ht : g.P.underlying t = some (.map kt et)) (hx : g.matchX x x' = true) (hs : stepOp g.E callE yieldE o.dst (.lenm x) fr = some fr') : OpOK g c w fr fr' a o.dst ((execOp a.eval o).run g.P w) := by
  have h1 := h.x hx
  obtain ⟨u, hu⟩ : ∃ u, u = a.eval x' := ⟨_, rfl⟩
  rw [← hu] at h1
  simp only [stepOp] at hs
  split at hs
  · rename_i e
    simp only [Option.some.injEq] at hs
    subst hs
    rw [e] at h1
    have e2 : u = .map none := by
      cases h1 with
      | i _ _ h => cases h; rfl
    refine OpOK.value h _ (v := .int .i64 0) ?_ (.i _ _ (.int _ _))
    simp [execOp, ho, ← hu, e2, resolve, invoke, builtin, Builtin.len_, hty, run_underlying' g.P _ ht, goInt]
  · rename_i n gg e
    split at hs
    case h_2 => simp at hs
    rename_i es clock g' hob
    split at hs <;> simp only [Option.some.injEq, reduceCtorEq] at hs
    rename_i hgg
    subst hgg
    subst hs
    rw [e] at h1
    obtain ⟨p, b, arr, hp, hb, e1, ha, hsz, hrel⟩ := map_live h.heap h1 hob
    refine OpOK.value h _ (v := .int .i64 es.length) ?_ (.i _ _ (.int _ _))
    simp [execOp, ho, ← hu, e1, resolve, invoke, builtin, Builtin.len_, hty, run_underlying' g.P _ ht, goInt, run_getObj_m ha, hsz]
  · simp at hs

end Go.VI
