/- append. -/
import Derived.Test.YteodaifeknghaaaVi12
import Derived.Deep.AppendSrc
namespace Go.VI
variable {g : PG} {c : Ctx} {w : World} {fr fr' : Fr} {a : Act} {o : Oper} {callE : CallE} {yieldE : Nm → List PV → Heap → Option (PV × Heap)}

theorem build_news {R : PV → Value → Prop} {ys : List PV} {n sz b q : Nat} (hn : ys.length = n) (hs : ∀ (i : Nat) e, ys[i]? = some e → e.cells.length = sz)
    (h : ∀ i j, i < n → j < sz → ∃ u, w.cell? ⟨b, q + i * sz + j, none⟩ = some u ∧ u.oneCell' = true ∧ ∀ e cv, ys[i]? = some e → e.cells[j]? = some cv → R cv u) :
    ∃ news : List Value, news.length = n * sz ∧ (∀ k u, news[k]? = some u → w.cell? ((⟨b, q, none⟩ : Addr).add k) = some u) ∧ (∀ u ∈ news, u.oneCell' = true) ∧ EGRel R sz ys news.toArray := by
  have hk : ∀ k, k < n * sz → k / sz < n ∧ k % sz < sz ∧ k / sz * sz + k % sz = k := by
    intro k hk
    have hsz : 0 < sz := by
      rcases Nat.eq_zero_or_pos sz with h0 | h0
      · subst h0; simp at hk
      · exact h0
    exact ⟨(Nat.div_lt_iff_lt_mul hsz).2 hk, Nat.mod_lt _ hsz, by rw [Nat.mul_comm]; exact Nat.div_add_mod k sz⟩
  have hch : ∀ k, ∃ u, k < n * sz → w.cell? ⟨b, q + k, none⟩ = some u ∧ u.oneCell' = true ∧ ∀ e cv, ys[k / sz]? = some e → e.cells[k % sz]? = some cv → R cv u := by
    intro k
    by_cases hlt : k < n * sz
    · obtain ⟨h1, h2, h3⟩ := hk k hlt
      obtain ⟨u, h4, h5, h6⟩ := h _ _ h1 h2
      exact ⟨u, fun _ => ⟨by rw [← h4, Nat.add_assoc, h3], h5, h6⟩⟩
    · exact ⟨undef, fun hx => absurd hx hlt⟩
  have hget : ∀ k, ((List.range (n * sz)).map fun k => (hch k).choose)[k]? = if k < n * sz then some (hch k).choose else none := by
    intro k
    by_cases hlt : k < n * sz
    · rw [List.getElem?_map, List.getElem?_range hlt, if_pos hlt]; rfl
    · rw [if_neg hlt, List.getElem?_eq_none (by simp; omega)]
  refine ⟨(List.range (n * sz)).map fun k => (hch k).choose, by simp, fun k u hu => ?_, fun u hu => ?_, hs, by simp [hn], fun i j e cv he hj => ?_⟩
  · rw [hget] at hu
    split at hu <;> simp only [Option.some.injEq, reduceCtorEq] at hu
    rename_i hlt
    rw [add_none, ← hu]
    exact ((hch k).choose_spec hlt).1
  · obtain ⟨k, hk', rfl⟩ := List.mem_map.1 hu
    exact ((hch k).choose_spec (by simpa using hk')).2.1
  · have hi : i < n := hn ▸ getElem?_some_lt he
    have hjs : j < sz := by have := hs i e he; have := getElem?_some_lt hj; omega
    have hlt : i * sz + j < n * sz := by
      have : (i + 1) * sz ≤ n * sz := Nat.mul_le_mul_right _ hi
      rw [Nat.add_mul, Nat.one_mul] at this
      omega
    have hd : (i * sz + j) / sz = i := by
      rw [Nat.add_comm, Nat.add_mul_div_right _ _ (by omega), Nat.div_eq_of_lt hjs, Nat.zero_add]
    have hm : (i * sz + j) % sz = j := by rw [Nat.add_comm, Nat.add_mul_mod_self_right, Nat.mod_eq_of_lt hjs]
    obtain ⟨_, h2, h3⟩ := (hch (i * sz + j)).choose_spec hlt
    refine ⟨(hch (i * sz + j)).choose, ?_, h2, h3 e cv (by rw [hd]; exact he) (by rw [hm]; exact hj)⟩
    rw [List.getElem?_toArray, hget, if_pos hlt]

theorem EGRel.nil {R : PV → Value → Prop} {sz : Nat} : EGRel R sz [] (#[] : Array Value) := ⟨fun i e he => by simp at he, by simp, fun i j e cv he => by simp at he⟩

theorem src_of (h : FrRel g c w fr a) {cl : Bool} {v : PV} {u : Value} {ys : List PV} {sz : Nat} {tx e' : TypeId} (hk : g.P.underlying tx = some (.slice e')) (hv : VRel c w v u) (he : elems fr.heap v = some ys) (hsz : headSz sz ys = true) (hcl : cleanFor fr.heap cl v = true) :
    ∃ news, Src g.P sz tx u ys.length news w ∧ EGRel (CRel cl c w) sz ys news.toArray ∧ ∃ base cap, u = .slice base ys.length cap := by
  have empty : ∀ (base : Option Addr) (cap : Nat), ys = [] → u = .slice base 0 cap → ∃ news, Src g.P sz tx u ys.length news w ∧ EGRel (CRel cl c w) sz ys news.toArray ∧ ∃ base cap, u = .slice base ys.length cap := by
    intro base cap hy hu
    subst hy
    subst hu
    refine ⟨[], ?_, EGRel.nil, base, cap, rfl⟩
    cases base with
    | none => exact Src.ofNil w hk cap
    | some x => exact Src.ofSlice w hk x 0 cap [] (by simp) (fun j u hj => by simp at hj) (fun u hu => by cases hu)
  unfold elems at he
  split at he
  · rename_i f L
    simp only [Option.some.injEq] at he
    subst he
    have hvi := hv.vs_inv
    cases hvi with
    | vsNone _ _ => exact empty none 0 rfl rfl
    | vsE _ A _ => exact empty (some A) 0 rfl rfl
    | vs _ _ b q cap sz' uf hc hcap hclip hs hcell hh =>
      rcases headSz_sz hsz hs with hL | hss
      · subst hL
        exact empty (some ⟨b, q, none⟩) cap rfl rfl
      · subst hss
        obtain ⟨news, h1, h2, h3, h4⟩ := build_news (w := w) (R := CRel cl c w) (b := b) (q := q) rfl hs (fun i j hi hj => by
          obtain ⟨_, h5, h6⟩ := hcell i j hi hj
          refine ⟨uf i j, h5, h6, fun e cv he hcv => ?_⟩
          have := hh i j e cv he hcv
          cases cl
          · exact .i _ _ this
          · exact this)
        exact ⟨news, Src.ofSlice w hk _ _ _ news h1 h2 h3, h4, _, _, rfl⟩
  · rename_i n gg off len
    split at he
    case h_2 => simp at he
    rename_i el g' cl' osz hob
    split at he <;> simp only [Option.some.injEq, reduceCtorEq] at he
    rename_i hc
    obtain ⟨rfl, hle⟩ := hc
    obtain ⟨p, hp, hM, hx⟩ := sl_live h.heap hv hob
    have hlen : ys.length = len := by rw [← he]; simp; omega
    rcases hx with ⟨hb, rfl, rfl, rfl⟩ | ⟨b, hb, hcap, rfl⟩ | ⟨rfl, _, x, rfl⟩
    · exact empty none 0 (by rw [← he]; simp) rfl
    · have hyi : ∀ i, ys[i]? = if i < len then el[off + i]? else none := by
        intro i
        rw [← he, List.getElem?_take, List.getElem?_drop]
      have hs : ∀ (i : Nat) e, ys[i]? = some e → e.cells.length = p.sz := by
        intro i e hi
        rw [hyi] at hi
        split at hi
        · exact hM.sz _ e hi
        · cases hi
      rcases headSz_sz hsz hs with hL | hss
      · have h0 : len = 0 := by rw [← hlen, hL]; rfl
        subst h0
        exact empty _ _ hL rfl
      · subst hss
        have hclo : cl = true → cl' = true := by
          intro hcc
          subst hcc
          simpa [cleanFor, hob] using hcl
        obtain ⟨arr, E, ha, hsize, hcell⟩ := hM.row b hb
        obtain ⟨news, h1, h2, h3, h4⟩ := build_news (w := w) (R := CRel cl c w) (b := b) (q := p.base + off * p.sz) hlen hs (fun i j hi hj => by
          have hlt : off + i < el.length := by omega
          have hee : el[off + i]? = some el[off + i] := List.getElem?_eq_getElem hlt
          have hcl2 := hM.sz _ _ hee
          have hcv : el[off + i].cells[j]? = some (el[off + i].cells[j]'(by omega)) := List.getElem?_eq_getElem (by omega)
          obtain ⟨u, h5, h6, h7⟩ := hcell _ j _ _ hee hcv
          refine ⟨u, ?_, h6, fun e cv he hcv' => ?_⟩
          · have : p.base + off * p.sz + i * p.sz + j = p.base + (off + i) * p.sz + j := by rw [Nat.add_mul]; omega
            rw [this]
            simp [World.cell?, ha, h5]
          · rw [hyi, if_pos hi, hee] at he
            simp only [Option.some.injEq] at he
            subst he
            rw [hcv] at hcv'
            simp only [Option.some.injEq] at hcv'
            subst hcv'
            cases cl
            · exact h7.v
            · have := hclo rfl
              subst this
              exact h7)
        rw [hlen]
        exact ⟨news, Src.ofSlice w hk _ _ _ news h1 h2 h3, h4, _, _, rfl⟩
    · exact empty (some x) 0 (by rw [← he]; simp) rfl
  · simp at he

theorem run_append_at {P : Program} {t tx ty e E : TypeId} {i : TypeInfo} (ht : P.underlying t = some (.slice e)) (hi : P.info? e = some i) {b off sLen sCap n : Nat} {x : Value} {news : List Value} (hs : Src P i.size tx x n news w)
    (hroom : sLen + n ≤ sCap) {arr : Array Value} (ha : w.heap[b]? = some (.cells arr E (0, 0))) (hq : off + sLen * i.size + news.length ≤ arr.size) :
    (Builtin.append_ #[t, tx] ty #[.slice (some ⟨b, off, none⟩) sLen sCap, x]).run P w = .ok (.slice (some ⟨b, off, none⟩) (sLen + n) sCap)
      (w.setRow b (arr.toList.take (off + sLen * i.size) ++ news ++ arr.toList.drop (off + sLen * i.size + news.length)).toArray) := by
  have hst := run_storeCells_at (P := P) b (off + sLen * i.size) E news 0 arr w ha (by simpa using hq) hs.one
  simp only [Nat.add_zero] at hst
  rcases hs.kind with ⟨e', hk⟩ | hk <;> simp [Builtin.append_, run_underlying ht, run_underlying hk, sizeOf, typeInfo, hi, hs.len, hroom, hs.cells, Addr.add_lit, hst]

theorem run_append_none {P : Program} {t tx ty e : TypeId} {i : TypeInfo} (ht : P.underlying t = some (.slice e)) (hi : P.info? e = some i) (base : Option Addr) {sLen sCap : Nat} (hle : sLen ≤ sCap) {x : Value} {news : List Value} (hs : Src P i.size tx x 0 news w) :
    (Builtin.append_ #[t, tx] ty #[.slice base sLen sCap, x]).run P w = .ok (.slice base sLen sCap) w := by
  have hn : news = [] := List.eq_nil_of_length_eq_zero (by simpa using hs.newsLen)
  subst hn
  rcases hs.kind with ⟨e', hk⟩ | hk <;> cases base <;> simp [Builtin.append_, run_underlying ht, run_underlying hk, sizeOf, typeInfo, hi, hs.len, hle, hs.cells, storeCells]

/-- Rows one behind the other. -/
theorem EGRel.append {R : PV → Value → Prop} {sz : Nat} {xs ys : List PV} {us vs rest : List Value} (h1 : EGRel R sz xs us.toArray) (h2 : EGRel R sz ys vs.toArray) (hl : us.length = xs.length * sz) (hl' : vs.length = ys.length * sz) :
    EGRel R sz (xs ++ ys) (us ++ vs ++ rest).toArray := by
  refine ⟨fun i e he => ?_, by simp [hl, hl', Nat.add_mul], fun i j e cv he hj => ?_⟩
  · rw [List.getElem?_append] at he
    split at he
    · exact h1.len i e he
    · exact h2.len _ e he
  · rw [List.getElem?_append] at he
    split at he
    · rename_i hi
      obtain ⟨u, h3, h4, h5⟩ := h1.cell i j e cv he hj
      refine ⟨u, ?_, h4, h5⟩
      rw [List.getElem?_toArray] at h3 ⊢
      have := getElem?_some_lt h3
      rw [List.append_assoc, List.getElem?_append_left this]
      exact h3
    · rename_i hi
      obtain ⟨u, h3, h4, h5⟩ := h2.cell _ j e cv he hj
      refine ⟨u, ?_, h4, h5⟩
      rw [List.getElem?_toArray] at h3 ⊢
      have := getElem?_some_lt h3
      have hmul : i * sz = xs.length * sz + (i - xs.length) * sz := by rw [← Nat.add_mul]; congr 1; omega
      rw [List.append_assoc, List.getElem?_append_right (by omega), List.getElem?_append_left (by omega), ← h3]
      congr 1
      omega

theorem More.grown (w : World) (ob : Obj) : More w (w.drew.alloc ob) := (More.drew w).trans (More.alloc w.drew ob)

theorem append_grow {P : Program} {t tx ty E : TypeId} {i : TypeInfo} {zv : Value} (ht : P.underlying t = some (.slice E)) (hi : P.info? E = some i) (hz : i.zero = some zv) (hzs : zv.cells.size = i.size) {cl : Bool} {L ys : List PV} {base : Option Addr} {sCap : Nat} {olds news : List Value} {x : Value}
    (hold : (Builtin.firstCells i.size L.length (.slice base L.length sCap)).run P w.drew = .ok olds.toArray w.drew) (hol : olds.length = L.length * i.size) (hoe : EGRel (CRel cl c w) i.size L olds.toArray) (hs : Src P i.size tx x ys.length news w) (hne : EGRel (CRel cl c w) i.size ys news.toArray)
    (hg : sCap < L.length + ys.length) (hb : (L.length + ys.length) * i.bytes ≤ 140737488355328) (hm : L.length + ys.length ≤ 140737488355328) :
    ∃ arr cap, (Builtin.append_ #[t, tx] ty #[.slice base L.length sCap, x]).run P w = .ok (.slice (some ⟨w.heap.size, 0, none⟩) (L.length + ys.length) cap) (w.drew.alloc (.cells arr E)) ∧ L.length + ys.length ≤ cap ∧ cap * i.size ≤ arr.size ∧ EGRel (CRel cl c w) i.size (L ++ ys) arr := by
  have hrun := run_append_grow_src (P := P) w t tx ty E i zv ht hi hz base L.length sCap olds hold x ys.length news hs hg (by omega) (growslice_fits hg hb)
  refine ⟨_, _, hrun, grownCap_ge _ _ _ _, ?_, ?_⟩
  · have hge := grownCap_ge w (L.length + ys.length) sCap E
    simp only [Array.size_append, List.size_toArray, List.length_append, size_zeroCells, hol, hs.newsLen, hzs]
    have : grownCap w (L.length + ys.length) sCap E * i.size = (L.length + ys.length) * i.size + (grownCap w (L.length + ys.length) sCap E - (L.length + ys.length)) * i.size := by rw [← Nat.add_mul]; congr 1; omega
    rw [this, Nat.add_mul]
    exact Nat.le_refl _
  · have := EGRel.append (rest := (Builtin.zeroCells zv.cells (grownCap w (L.length + ys.length) sCap E - (L.length + ys.length))).toList) hoe hne hol hs.newsLen
    have e : (olds ++ news).toArray ++ Builtin.zeroCells zv.cells (grownCap w (L.length + ys.length) sCap E - (L.length + ys.length)) = (olds ++ news ++ (Builtin.zeroCells zv.cells (grownCap w (L.length + ys.length) sCap E - (L.length + ys.length))).toList).toArray := by
      apply Array.ext'
      simp
    rw [e]
    exact this

theorem EGRel.mono {R R' : PV → Value → Prop} {sz : Nat} {els : List PV} {arr : Array Value} (h : EGRel R sz els arr) (hr : ∀ v u, R v u → R' v u) : EGRel R' sz els arr :=
  ⟨h.len, h.size, fun i j e cv he hj => let ⟨u, a, b, d⟩ := h.cell i j e cv he hj; ⟨u, a, b, hr _ _ d⟩⟩

theorem fits_grown (w : World) (ob : Obj) (o sz cap : Nat) : Fits w (w.drew.alloc ob) (some ⟨some w.heap.size, o, sz, cap⟩) := fits_alloc w.drew ob o sz cap

theorem vs_empty {L : List PV} (h : L.isEmpty = true) : L = [] := by cases L <;> simp_all

theorem ok_append (h : FrRel g c w fr a) {s bytes : Nat} {cl : Bool} {x y : PX} {x' y' : Operand} {t tx E e' : TypeId} {i : TypeInfo} {zv : Value} (ho : o.op = .call { callee := .builtin .append, args := #[x', y'], argTypes := #[t, tx] })
    (ht : g.P.underlying t = some (.slice E)) (hk : g.P.underlying tx = some (.slice e')) (hi : g.P.info? E = some i) (hz : i.zero = some zv) (hzs : zv.cells.size = i.size) (hby : i.bytes = bytes) (hx : g.matchX x x' = true) (hy : g.matchX y y' = true)
    (hs : stepOp g.E callE yieldE o.dst (.append s cl i.size bytes x y) fr = some fr') : OpOK g c w fr fr' a o.dst ((execOp a.eval o).run g.P w) := by
  have v1 := h.x hx
  have v2 := h.x hy
  obtain ⟨u, hu⟩ : ∃ u, u = a.eval x' := ⟨_, rfl⟩
  rw [← hu] at v1
  subst hby
  have hex : ∀ {r : Result Value}, (Builtin.append_ #[t, tx] o.type #[u, a.eval y']).run g.P w = r → (execOp a.eval o).run g.P w = (match r with | .ok v w' => .ok (.value v) w' | .halt e w' => .halt e w') := by
    intro r hr
    simp [execOp, ho, resolve, invoke, builtin, ← hu, hr]
    cases r <;> rfl
  simp only [stepOp] at hs
  split at hs
  case h_1 => simp at hs
  rename_i ys hys
  split at hs
  · simp at hs
  rename_i hszy
  have hszy : headSz i.size ys = true := by simpa using hszy
  split at hs
  · -- onto a slice that will not change
    rename_i f L hL
    split at hs
    case isFalse => simp at hs
    rename_i hc
    obtain ⟨hf, hszL, hemp, hb, hm, hcl⟩ := hc
    rw [hL] at v1
    obtain ⟨olds, s1, s2, base, cap, e1⟩ := src_of h (cl := true) hk v1 (ys := L) rfl hszL rfl
    obtain ⟨news, s3, s4, _⟩ := src_of h (cl := cl) hk v2 hys hszy hcl
    have hcap : cap = L.length ∨ (base = none ∧ L = [] ∧ cap = 0) := by
      have := v1.vs_inv
      rw [e1] at this
      cases this with
      | vsNone => exact .inr ⟨rfl, rfl, rfl⟩
      | vsE => exact .inl rfl
      | vs _ _ b q cap sz' uf hc hcap hclip hs hcell hh =>
        cases f with
        | clip => exact .inl (hclip rfl)
        | nil => exact absurd rfl hc
        | any => simp [Fl.full] at hf
        | nn => simp [Fl.full] at hf
    have hcap : cap = L.length := by
      rcases hcap with h1 | ⟨_, h2, h3⟩
      · exact h1
      · rw [h3, h2]; rfl
    refine OpOK.lay h hs fun k pv ob hR hf' => ?_
    simp only [Option.some.injEq, Prod.mk.injEq] at hf'
    obtain ⟨rfl, rfl⟩ := hf'
    cases hy0 : ys with
    | nil =>
      have hL0 : L = [] := by rw [hy0] at hemp; simpa using hemp
      subst hL0
      rw [hy0] at s3
      have hr := run_append_none (ty := o.type) ht hi base (sLen := 0) (sCap := cap) (by omega) s3
      subst hcap
      refine ⟨.slice base 0 0, w, ⟨none, 0, i.size, 0⟩, ?_, More.refl w, (fun q b hq hb => by simp only [Option.some.injEq] at hq; subst hq; simp at hb), ⟨Ctx.lay_gen_self _ _ _ _, fun q hq => ?_⟩, ?_⟩
      · have := hex (r := .ok (.slice base 0 0) w) (by rw [e1]; exact hr)
        exact this
      · rw [Ctx.lay_obj_self] at hq
        simp only [Option.some.injEq] at hq
        subst hq
        exact ⟨rfl, fun _ => ⟨rfl, rfl⟩, Nat.le_refl _, fun i e he => by simp at he, fun b hb => by simp at hb⟩
      · cases base with
        | none => exact .slNil _ _ _ (by rw [Ctx.lay_gen_self]; exact Nat.le_refl _) (Ctx.lay_obj_self _ _ _ _) rfl
        | some q =>
          exact .slE _ _ _ _ q (by rw [Ctx.lay_gen_self]; exact Nat.le_refl _) (Ctx.lay_obj_self _ _ _ _) rfl
    | cons y0 r0 =>
      rw [← hy0]
      have hpos : 0 < ys.length := by rw [hy0]; simp
      obtain ⟨arr, cap', hrun, hc1, hc2, hrel⟩ := append_grow (ty := o.type) (cl := cl) (L := L) (ys := ys) (base := base) (sCap := cap) ht hi hz hzs (by rw [← e1]; exact s1.cellsD) s1.newsLen (s2.mono fun v u hv => by cases cl; exact CRel.v (cl := true) hv; exact hv) s3 s4 (by omega) hb hm
      have hM := More.grown w (.cells arr E)
      have hp := fits_grown w (.cells arr E) 0 i.size cap'
      have hS := step_lay hM hR hp
      refine ⟨.slice (some ⟨w.heap.size, 0, none⟩) (L.length + ys.length) cap', _, _, ?_, hM, hp, ⟨Ctx.lay_gen_self _ _ _ _, fun q hq => ?_⟩, ?_⟩
      · exact hex (r := .ok _ _) (by rw [e1]; exact hrun)
      · rw [Ctx.lay_obj_self] at hq
        simp only [Option.some.injEq] at hq
        subst hq
        exact memRel_new (hrel.mono fun v u hv => CRel.step hS h.wf hv) (alloc_heap w.drew _) (by simpa using hc1) hc2
      · have := VRel.sl (c := c.lay (fr.nm s) k (some ⟨some w.heap.size, 0, i.size, cap'⟩)) (w := w.drew.alloc (.cells arr E)) (fr.nm s) k 0 (L.length + ys.length) _ w.heap.size (by rw [Ctx.lay_gen_self]; exact Nat.le_refl _) (Ctx.lay_obj_self _ _ _ _) rfl (by simpa using hc1)
        simpa using this
  · -- onto an array of the call's own
    rename_i n gg off len hL
    split at hs
    case h_2 => simp at hs
    rename_i el g' cl' osz hob
    split at hs
    case isFalse => simp at hs
    rename_i hc
    obtain ⟨rfl, rfl, hcl⟩ := hc
    rw [hL] at v1
    obtain ⟨p, hp, hM, hx3⟩ := sl_live h.heap v1 hob
    obtain ⟨news, s3, s4, _⟩ := src_of h (cl := cl') hk v2 hys hszy hcl
    have hgen := (h.heap n _ hob).1
    have hpsz := hM.osz
    split at hs
    · -- over elements that are there
      rename_i hle
      simp only [Option.some.injEq] at hs
      subst hs
      have hcap := hM.cap
      rcases hx3 with ⟨hb, rfl, rfl, e1⟩ | ⟨b, hb, hlc, e1⟩ | ⟨rfl, hoff, q1, e1⟩
      · have hel := (hM.nil hb).1
        have hy0 : ys = [] := by rw [hel] at hle; exact List.eq_nil_of_length_eq_zero (by simpa using hle)
        subst hy0
        have hr := run_append_none (ty := o.type) ht hi none (sLen := 0) (sCap := 0) (Nat.le_refl _) s3
        have hredo : Redo c w w n p p gg := ⟨hp, .inr ⟨hgen, rfl⟩, Nat.le_refl _, rfl, rfl, fun _ _ _ => rfl, fun b hb => .inl hb⟩
        refine ⟨_, _, _, .inl (hex (r := .ok (.slice none 0 0) w) (by rw [e1]; exact hr)), hredo.step, FrRel.put (h.redo hredo hob ?_) o.dst ?_⟩
        · have := (h.heap n _ hob)
          simpa using ObRel.keep hredo.step h.wf (by rw [Ctx.lay_obj_self, hp]) (by rw [Ctx.lay_gen_self, hgen]) (fun _ _ _ _ => rfl) this
        · simpa using VRel.slNil (c := c.lay n gg (some p)) n gg p (by rw [Ctx.lay_gen_self]; exact Nat.le_refl _) (Ctx.lay_obj_self _ _ _ _) hb
      · obtain ⟨arr, E', ha, hsize, _⟩ := hM.row b hb
        have hnl := s3.newsLen
        have hks : (off + len + ys.length) * i.size ≤ p.cap * i.size := Nat.mul_le_mul_right _ (by omega)
        rw [Nat.add_mul, Nat.add_mul] at hks
        rw [hpsz] at hsize e1
        have hq : p.base + off * i.size + len * i.size + news.length ≤ arr.size := by omega
        have hr := run_append_at (ty := o.type) ht hi s3 (sLen := len) (sCap := p.cap - off) (off := p.base + off * i.size) (by omega) ha hq
        have hredo : Redo c w (w.setRow b (arr.toList.take (p.base + off * i.size + len * i.size) ++ news ++ arr.toList.drop (p.base + off * i.size + len * i.size + news.length)).toArray) n p p gg := setRow_redo hp hb (Nat.le_of_eq hgen) _
        refine ⟨_, _, _, .inl (hex (r := .ok _ _) (by rw [e1]; exact hr)), hredo.step, FrRel.put (h.redo hredo hob (?_ : ObRel g.MC _ _ n (.mem _ gg cl' i.size))) o.dst ?_⟩
        · refine ⟨Ctx.lay_gen_self _ _ _ _, fun q hq' => ?_⟩
          rw [Ctx.lay_obj_self] at hq'
          simp only [Option.some.injEq] at hq'
          subst hq'
          have hget : ∀ k, (el.take (off + len) ++ ys ++ el.drop (off + len + ys.length))[k]? = if off + len ≤ k ∧ k < off + len + ys.length then ys[k - (off + len)]? else el[k]? := seg_get el ys (off + len) hle
          refine memRel_write hM hb ha hq ?_ (fun k e he => ?_) (fun v u hv => CRel.step hredo.step h.wf hv) (fun k j e cv he hj => ?_)
          · simp only [List.length_append, List.length_take, List.length_drop]; omega
          · rw [hget] at he
            split at he
            · rw [hpsz]; exact s4.len _ e he
            · exact hM.sz k e he
          · rw [hget] at he
            split at he
            · rename_i hin
              obtain ⟨z, z1, z2, z3⟩ := s4.cell _ j e cv he hj
              have hjl : j < i.size := by have := s4.len _ e he; have := getElem?_some_lt hj; omega
              have e3 : k * p.sz = off * i.size + len * i.size + (k - (off + len)) * i.size := by rw [hpsz, ← Nat.add_mul, ← Nat.add_mul]; congr 1; omega
              have e4 : (k - (off + len) + 1) * i.size ≤ ys.length * i.size := Nat.mul_le_mul_right _ (by omega)
              rw [Nat.add_mul, Nat.one_mul] at e4
              refine .inl ⟨by omega, by omega, z, ?_, z2, z3⟩
              rw [List.getElem?_toArray] at z1
              rw [← z1]
              congr 1
              omega
            · rename_i hin
              refine .inr ⟨?_, e, he, hj⟩
              have hjl : j < p.sz := by have := hM.sz k e he; have := getElem?_some_lt hj; omega
              rw [hpsz] at hjl ⊢
              rcases Nat.lt_or_ge k (off + len) with hlt | hge
              · left
                have : (k + 1) * i.size ≤ (off + len) * i.size := Nat.mul_le_mul_right _ (by omega)
                rw [Nat.add_mul, Nat.one_mul, Nat.add_mul] at this
                omega
              · right
                have : (off + len + ys.length) * i.size ≤ k * i.size := Nat.mul_le_mul_right _ (by omega)
                rw [Nat.add_mul, Nat.add_mul] at this
                omega
        · have := VRel.sl (c := c.lay n gg (some p)) (w := w.setRow b (arr.toList.take (p.base + off * i.size + len * i.size) ++ news ++ arr.toList.drop (p.base + off * i.size + len * i.size + news.length)).toArray) n gg off (len + ys.length) p b (by rw [Ctx.lay_gen_self]; exact Nat.le_refl _) (Ctx.lay_obj_self _ _ _ _) hb (by omega)
          rw [hpsz] at this
          exact this
      · have hy0 : ys = [] := List.eq_nil_of_length_eq_zero (by omega)
        subst hy0
        have hr := run_append_none (ty := o.type) ht hi (some q1) (sLen := 0) (sCap := 0) (Nat.le_refl _) s3
        have hredo : Redo c w w n p p gg := ⟨hp, .inr ⟨hgen, rfl⟩, Nat.le_refl _, rfl, rfl, fun _ _ _ => rfl, fun b hb => .inl hb⟩
        refine ⟨_, _, _, .inl (hex (r := .ok (.slice (some q1) 0 0) w) (by rw [e1]; exact hr)), hredo.step, FrRel.put (h.redo hredo hob ?_) o.dst ?_⟩
        · have := (h.heap n _ hob)
          simpa using ObRel.keep hredo.step h.wf (by rw [Ctx.lay_obj_self, hp]) (by rw [Ctx.lay_gen_self, hgen]) (fun _ _ _ _ => rfl) this
        · simpa using VRel.slE (c := c.lay n gg (some p)) n gg off p q1 (by rw [Ctx.lay_gen_self]; exact Nat.le_refl _) (Ctx.lay_obj_self _ _ _ _) hoff
    · -- behind them
      rename_i hnle
      split at hs
      case isFalse => simp at hs
      rename_i hc
      obtain ⟨rfl, hll, hb48, hm⟩ := hc
      simp only [Option.some.injEq] at hs
      subst hs
      have hpos : 0 < ys.length := by omega
      have hcap := hM.cap
      have hlt : c.gen n < gg + ys.length := by omega
      by_cases hroom : len + ys.length ≤ p.cap
      · -- in place
        obtain ⟨b, hb⟩ : ∃ b, p.blk = some b := by
          cases hpb : p.blk with
          | none => have := (hM.nil hpb).2; omega
          | some b => exact ⟨b, rfl⟩
        have e1 : u = .slice (some ⟨b, p.base, none⟩) len p.cap := by
          rcases hx3 with ⟨hb', _⟩ | ⟨b', hb', _, e1⟩ | ⟨_, hoff, _, _⟩
          · rw [hb] at hb'; cases hb'
          · rw [hb] at hb'
            simp only [Option.some.injEq] at hb'
            subst hb'
            simpa using e1
          · omega
        obtain ⟨arr, E', ha, hsize, _⟩ := hM.row b hb
        have hnl := s3.newsLen
        have hks : (len + ys.length) * i.size ≤ p.cap * i.size := Nat.mul_le_mul_right _ hroom
        rw [Nat.add_mul] at hks
        rw [hpsz] at hsize
        have hq : p.base + len * i.size + news.length ≤ arr.size := by omega
        have hr := run_append_at (ty := o.type) ht hi s3 (sLen := len) (sCap := p.cap) (off := p.base) hroom ha hq
        have hredo : Redo c w (w.setRow b (arr.toList.take (p.base + len * i.size) ++ news ++ arr.toList.drop (p.base + len * i.size + news.length)).toArray) n p p (gg + ys.length) := setRow_redo hp hb (Nat.le_of_lt hlt) _
        refine ⟨_, _, _, .inl (hex (r := .ok _ _) (by rw [e1]; exact hr)), hredo.step, FrRel.put (h.redo hredo hob (?_ : ObRel g.MC _ _ n (.mem _ (gg + ys.length) cl' i.size))) o.dst ?_⟩
        · refine ⟨Ctx.lay_gen_self _ _ _ _, fun q hq' => ?_⟩
          rw [Ctx.lay_obj_self] at hq'
          simp only [Option.some.injEq] at hq'
          subst hq'
          have hget : ∀ k, (el.take len ++ ys)[k]? = if k < len then el[k]? else ys[k - len]? := by
            intro k
            rw [List.getElem?_append, List.length_take, Nat.min_eq_left hll]
            split
            · rename_i hk; rw [List.getElem?_take, if_pos hk]
            · rfl
          refine memRel_write hM hb ha hq ?_ (fun k e he => ?_) (fun v u hv => CRel.step hredo.step h.wf hv) (fun k j e cv he hj => ?_)
          · simp only [List.length_append, List.length_take]; omega
          · rw [hget] at he
            split at he
            · exact hM.sz k e he
            · rw [hpsz]; exact s4.len _ e he
          · rw [hget] at he
            split at he
            · rename_i hin
              refine .inr ⟨?_, e, he, hj⟩
              have hjl : j < p.sz := by have := hM.sz k e he; have := getElem?_some_lt hj; omega
              rw [hpsz] at hjl ⊢
              left
              have : (k + 1) * i.size ≤ len * i.size := Nat.mul_le_mul_right _ (by omega)
              rw [Nat.add_mul, Nat.one_mul] at this
              omega
            · rename_i hin
              obtain ⟨z, z1, z2, z3⟩ := s4.cell _ j e cv he hj
              have hjl : j < i.size := by have := s4.len _ e he; have := getElem?_some_lt hj; omega
              have hkl := getElem?_some_lt he
              have e3 : k * p.sz = len * i.size + (k - len) * i.size := by rw [hpsz, ← Nat.add_mul]; congr 1; omega
              have e4 : (k - len + 1) * i.size ≤ ys.length * i.size := Nat.mul_le_mul_right _ (by omega)
              rw [Nat.add_mul, Nat.one_mul] at e4
              refine .inl ⟨by omega, by omega, z, ?_, z2, z3⟩
              rw [List.getElem?_toArray] at z1
              rw [← z1]
              congr 1
              omega
        · have := VRel.sl (c := c.lay n (gg + ys.length) (some p)) (w := w.setRow b (arr.toList.take (p.base + len * i.size) ++ news ++ arr.toList.drop (p.base + len * i.size + news.length)).toArray) n (gg + ys.length) 0 (len + ys.length) p b (by rw [Ctx.lay_gen_self]; exact Nat.le_refl _) (Ctx.lay_obj_self _ _ _ _) hb (by omega)
          simpa using this
      · -- a new row
        have hLe : elems fr.heap (.sl n gg 0 len) = some (el.take len) := by simp [elems, hob, hll]
        have hszo : headSz i.size (el.take len) = true := by
          cases hel : el.take len with
          | nil => rfl
          | cons e0 r0 =>
            have h0 : el[0]? = some e0 := by
              have h1 : (el.take len)[0]? = some e0 := by rw [hel]; rfl
              rw [List.getElem?_take] at h1
              split at h1
              · exact h1
              · cases h1
            have := hM.sz 0 e0 h0
            simp only [headSz]
            rw [this, hpsz]
            exact Nat.beq_refl _
        have htl : (el.take len).length = len := by rw [List.length_take]; omega
        obtain ⟨olds, s1, s2, base, cap, e1⟩ := src_of h (cl := cl') hk v1 hLe hszo (by cases cl' <;> simp [cleanFor, hob])
        rw [htl] at e1
        have hcp : cap ≤ p.cap := by
          rcases hx3 with ⟨hb, _, rfl, e2⟩ | ⟨b, hb, hlc, e2⟩ | ⟨rfl, hoff, q1, e2⟩
          · rw [e1] at e2; simp only [Value.slice.injEq] at e2; omega
          · rw [e1] at e2; simp only [Value.slice.injEq] at e2; omega
          · rw [e1] at e2; simp only [Value.slice.injEq] at e2; omega
        obtain ⟨arr, cap', hrun, hc1, hc2, hrel⟩ := append_grow (ty := o.type) (cl := cl') (L := el.take len) (ys := ys) (base := base) (sCap := cap) ht hi hz hzs (by rw [htl, ← e1]; have := s1.cellsD; rw [htl] at this; exact this) s1.newsLen s2 s3 s4 (by rw [htl]; omega) (by rw [htl]; exact hb48) (by rw [htl]; exact hm)
        rw [htl] at hrun hc1
        have hredo : Redo c w (w.drew.alloc (.cells arr E)) n p ⟨some w.heap.size, 0, i.size, cap'⟩ (gg + ys.length) := by
          have hMo := More.grown w (.cells arr E)
          refine ⟨hp, .inl hlt, hMo.size, hMo.os, hMo.out, fun b hb _ => hMo.same b hb, fun b hb => .inr ?_⟩
          exact fits_grown w (.cells arr E) 0 i.size cap' _ b rfl hb
        refine ⟨_, _, _, .inl (hex (r := .ok _ _) (by rw [e1]; exact hrun)), hredo.step, FrRel.put (h.redo hredo hob (?_ : ObRel g.MC _ _ n (.mem _ (gg + ys.length) cl' i.size))) o.dst ?_⟩
        · refine ⟨Ctx.lay_gen_self _ _ _ _, fun q hq' => ?_⟩
          rw [Ctx.lay_obj_self] at hq'
          simp only [Option.some.injEq] at hq'
          subst hq'
          exact memRel_new (hrel.mono fun v u hv => CRel.step hredo.step h.wf hv) (alloc_heap w.drew _) (by rw [List.length_append, htl]; exact hc1) hc2
        · have := VRel.sl (c := c.lay n (gg + ys.length) (some ⟨some w.heap.size, 0, i.size, cap'⟩)) (w := w.drew.alloc (.cells arr E)) n (gg + ys.length) 0 (len + ys.length) _ w.heap.size (by rw [Ctx.lay_gen_self]; exact Nat.le_refl _) (Ctx.lay_obj_self _ _ _ _) rfl (by simpa using hc1)
          simpa using this
  · simp at hs

end Go.VI
